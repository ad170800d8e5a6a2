/- batch: the text (pure). -/
import Derived.Test.YtcioejacijkbcaaGreatDoorBaB
namespace Go.Proofs.YtcioejacijkbcaaGreatDoor.Ba
open Go.RowKit Go.Maps Go.ChangeMaps Go.WideMaps Go.Proofs.YtcioejacijkbcaaGreatDoor.Su Go.Proofs.YtcioejacijkbcaaGreatDoor.Bt Go.Proofs.YtcioejacijkbcaaGreatDoor.Sb Go.Proofs.YtcioejacijkbcaaGreatDoor.Rc Go.Proofs.YtcioejacijkbcaaGreatDoor.Rg
set_option linter.unusedVariables false
theorem str_append (a b : List UInt8) : str a ++ str b = str (a ++ b) := by
  apply ByteArray.ext; simp [str]
theorem str_id (s : ByteArray) : str s.data.toList = s := by simp [str]
/-- what is summed of a batch -/
def inner (base count view producer seq : Int) (codec n : Nat) (p : Nat) (z : List UInt8) : List UInt8 :=
  le base.toNat 8 ++ le count.toNat 2 ++ le view.toNat 4 ++ le producer.toNat 4 ++ le seq.toNat 4 ++ le codec 1 ++ le n 2 ++ le p 4 ++ z
def outer (s : List UInt8) : List UInt8 := [80, 66] ++ le s.length 4 ++ le (crc s) 4 ++ s
theorem inner_length (base count view producer seq : Int) (codec n p : Nat) (z : List UInt8) : (inner base count view producer seq codec n p z).length = 29 + z.length := by
  simp [inner, le_length]; omega
/-- records that rise below an end are few -/
theorem rise_few (base : Int) (rs : List Rec) (h : rise base rs = true) (e : Int) (hl : rs = [] ∨ (rs.getD (rs.length - 1) default).o < e) : rs = [] ∨ base + rs.length ≤ e := by
  induction rs generalizing base with
  | nil => exact .inl rfl
  | cons r rs ih =>
    simp only [rise, Bool.and_eq_true, decide_eq_true_eq] at h
    obtain ⟨⟨_, h1⟩, h2⟩ := h
    rcases hl with hl | hl
    · cases hl
    right
    rcases rs with _ | ⟨x, rs⟩
    · simp at hl ⊢; omega
    · have := ih (r.o + 1) h2 (.inr (by simpa using hl))
      rcases this with h | h
      · cases h
      · simp only [List.length_cons] at h ⊢; omega
theorem may_parts {base count view producer seq : Int} {rs : List Rec} (h : mayB base count view producer seq rs = true) :
    headed base count view producer seq = true ∧ okRecs base rs = true ∧ rs.length ≤ 256 := by
  simp only [mayB, Bool.and_eq_true] at h
  obtain ⟨h1, h2, h3⟩ := h
  refine ⟨h1, h2, ?_⟩
  have hb := headed_bounds h1
  have hr : rise base rs = true := by unfold okRecs at h2; simp only [Bool.and_eq_true] at h2; exact h2.2
  simp only [Bool.or_eq_true, decide_eq_true_eq] at h3
  rcases rise_few base rs hr (base + count) (h3.imp (fun h => List.length_eq_zero_iff.1 h) id) with h | h
  · rw [h]; simp
  · omega
theorem alloc_old {w : World} {k : Nat} {x : Obj} (o : Obj) (h : w.heap[k]? = some x) : (w.alloc o).heap[k]? = some x := by
  have hlt := lt_of_heap h
  show (w.heap.push o)[k]? = _
  rw [Array.getElem?_push, if_neg (Nat.ne_of_lt hlt)]; exact h
end Go.Proofs.YtcioejacijkbcaaGreatDoor.Ba
