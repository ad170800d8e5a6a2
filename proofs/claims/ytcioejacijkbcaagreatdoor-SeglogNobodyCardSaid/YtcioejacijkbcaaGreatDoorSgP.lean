/- segment: batches that follow one another (plain lists). -/
import Derived.Test.YtcioejacijkbcaaGreatDoorSgF
namespace Go.Proofs.YtcioejacijkbcaaGreatDoor.Sg
open Go.RowKit Go.Proofs.YtcioejacijkbcaaGreatDoor.Rc
set_option linter.unusedVariables false
instance : Inhabited Bat := ⟨⟨0, 0, 0, 0, 0, []⟩⟩
/-- batches that follow one another from a base on -/
def Chain : Nat → List Bat → Prop
  | _, [] => True
  | b, x :: xs => x.Ok ∧ x.b = b ∧ Chain (b + x.c) xs
def endOf (b : Nat) (xs : List Bat) : Nat := b + (xs.map Bat.c).sum
def text (xs : List Bat) : List UInt8 := xs.flatMap Bat.l
/-- where a batch stands -/
def offs (xs : List Bat) (k : Nat) : Nat := (text (xs.take k)).length
def marks (xs : List Bat) : List (Nat × Nat) := (List.range ((xs.length + 3) / 4)).map fun j => ((xs.getD (4 * j) default).b, offs xs (4 * j))
theorem marks_length (xs : List Bat) : (marks xs).length = (xs.length + 3) / 4 := by simp [marks]
theorem marks_get (xs : List Bat) (j : Nat) (h : j < (marks xs).length) : (marks xs)[j] = ((xs.getD (4 * j) default).b, offs xs (4 * j)) := by simp [marks]
theorem marks_snoc (xs : List Bat) (x : Bat) : marks (xs ++ [x]) = if xs.length % 4 = 0 then marks xs ++ [(x.b, (text xs).length)] else marks xs := by
  have hold : ∀ j, 4 * j < xs.length → (((xs ++ [x]).getD (4 * j) default).b, offs (xs ++ [x]) (4 * j)) = ((xs.getD (4 * j) default).b, offs xs (4 * j)) := by
    intro j hj
    rw [List.getD_eq_getElem?_getD, List.getElem?_append_left hj, ← List.getD_eq_getElem?_getD]
    unfold offs
    rw [List.take_append_of_le_length (by omega)]
  have hmap : (List.range ((xs.length + 3) / 4)).map (fun j => (((xs ++ [x]).getD (4 * j) default).b, offs (xs ++ [x]) (4 * j))) = marks xs := by
    unfold marks
    apply List.map_congr_left
    intro j hj
    rw [List.mem_range] at hj
    exact hold j (by omega)
  by_cases h : xs.length % 4 = 0
  · rw [if_pos h, ← hmap]
    unfold marks
    have e : ((xs ++ [x]).length + 3) / 4 = (xs.length + 3) / 4 + 1 := by simp; omega
    rw [e, List.range_succ, List.map_append]
    congr 1
    have e4 : 4 * ((xs.length + 3) / 4) = xs.length := by omega
    simp only [List.map_cons, List.map_nil, e4]
    rw [List.getD_eq_getElem?_getD, List.getElem?_append_right (Nat.le_refl _)]
    simp [offs]
  · rw [if_neg h, ← hmap]
    unfold marks
    have e : ((xs ++ [x]).length + 3) / 4 = (xs.length + 3) / 4 := by simp; omega
    rw [e]
theorem endOf_snoc (b : Nat) (xs : List Bat) (x : Bat) : endOf b (xs ++ [x]) = endOf b xs + x.c := by simp [endOf]; omega
theorem text_append (l1 l2 : List Bat) : text (l1 ++ l2) = text l1 ++ text l2 := by simp [text]
theorem text_cons (x : Bat) (l : List Bat) : text (x :: l) = x.l ++ text l := rfl
theorem endOf_append (b : Nat) (l1 l2 : List Bat) : endOf b (l1 ++ l2) = endOf b l1 + (l2.map Bat.c).sum := by simp [endOf]; omega
theorem text_snoc (xs : List Bat) (x : Bat) : text (xs ++ [x]) = text xs ++ x.l := by simp [text]
theorem Chain.snoc : ∀ {xs : List Bat} {b : Nat} {x : Bat}, Chain b xs → x.Ok → x.b = endOf b xs → Chain b (xs ++ [x])
  | [], b, x, _, hx, hb => ⟨hx, by simpa [endOf] using hb, trivial⟩
  | y :: ys, b, x, ⟨h1, h2, h3⟩, hx, hb => ⟨h1, h2, h3.snoc hx (by rw [hb]; simp [endOf]; omega)⟩
theorem Chain.get : ∀ {xs : List Bat} {b : Nat}, Chain b xs → ∀ k (h : k < xs.length), xs[k].Ok ∧ xs[k].b = endOf b (xs.take k)
  | y :: ys, b, ⟨h1, h2, h3⟩, 0, _ => ⟨h1, by simpa [endOf] using h2⟩
  | y :: ys, b, ⟨h1, h2, h3⟩, k + 1, h => by
    obtain ⟨g1, g2⟩ := h3.get k (by simpa using h)
    refine ⟨g1, ?_⟩
    show (ys[k]'(by simpa using h)).b = _
    rw [g2]; simp [endOf]; omega
theorem endOf_take_succ (b : Nat) (xs : List Bat) (k : Nat) (h : k < xs.length) : endOf b (xs.take (k + 1)) = endOf b (xs.take k) + xs[k].c := by
  rw [List.take_succ_eq_append_getElem h, endOf_snoc]
theorem offs_succ (xs : List Bat) (k : Nat) (h : k < xs.length) : offs xs (k + 1) = offs xs k + xs[k].l.length := by
  unfold offs
  rw [List.take_succ_eq_append_getElem h, text_snoc, List.length_append]
theorem text_drop (xs : List Bat) (k : Nat) (h : k < xs.length) : (text xs).drop (offs xs k) = xs[k].l ++ text (xs.drop (k + 1)) := by
  have e : text xs = text (xs.take k) ++ (xs[k].l ++ text (xs.drop (k + 1))) := by
    have h2 : xs = xs.take k ++ (xs[k] :: xs.drop (k + 1)) := by rw [← List.drop_eq_getElem_cons h, List.take_append_drop]
    have h3 : text (xs.take k ++ (xs[k] :: xs.drop (k + 1))) = text (xs.take k) ++ (xs[k].l ++ text (xs.drop (k + 1))) := by rw [text_append, text_cons]
    rw [← h3, ← h2]
  rw [e]
  exact List.drop_left' rfl
theorem offs_le (xs : List Bat) (k : Nat) : offs xs k ≤ (text xs).length := by
  have e : text xs = text (xs.take k) ++ text (xs.drop k) := by
    have := text_append (xs.take k) (xs.drop k)
    rw [← this, List.take_append_drop]
  rw [e, List.length_append]; exact Nat.le_add_right _ _
theorem offs_mono (xs : List Bat) {j k : Nat} (h : j ≤ k) : offs xs j ≤ offs xs k := by
  have h2 : offs (xs.take k) j = offs xs j := by unfold offs; rw [List.take_take, Nat.min_eq_left h]
  rw [← h2]
  exact offs_le _ _
theorem offs_all (xs : List Bat) : offs xs xs.length = (text xs).length := by simp [offs]
/-- the batch that has an offset is the only one -/
theorem Chain.le_of (xs : List Bat) (b : Nat) : ∀ {j k : Nat}, j ≤ k → endOf b (xs.take j) ≤ endOf b (xs.take k) := by
  intro j k h
  have e : xs.take j = (xs.take k).take j := by rw [List.take_take, Nat.min_eq_left h]
  have e2 : xs.take k = (xs.take k).take j ++ (xs.take k).drop j := (List.take_append_drop _ _).symm
  rw [e]
  have := endOf_append b ((xs.take k).take j) ((xs.take k).drop j)
  rw [← e2] at this
  omega
end Go.Proofs.YtcioejacijkbcaaGreatDoor.Sg
