/- The references' End and Having over a list of batches. -/
import Derived.Test.YtnhemmjbodhjeaaGreatSgS
namespace Go.Proofs.YtnhemmjbodhjeaaGreat.Sg
open Go.RowKit Go.Maps Go.ChangeMaps Go.WideMaps Go.Proofs.YtnhemmjbodhjeaaGreat.Vd Go.Proofs.YtnhemmjbodhjeaaGreat.Rc Go.Proofs.YtnhemmjbodhjeaaGreat.Ba Go.Proofs.YtnhemmjbodhjeaaGreat.Rf
set_option linter.unusedVariables false
/-- an own list of batches' texts -/
def Texts (w : World) (B : Nat) (v : Value) (xs : List Bat) : Prop := w.ownsRow B 9 1 v xs.length (xs.map fun x => .string (Bt.str x.l))
theorem Texts.nil (w : World) (B : Nat) : Texts w B (.slice none 0 0) [] := World.ownsRow_nil _ _ _ _
theorem Texts.same {w w' : World} {B : Nat} {v : Value} {xs : List Bat} (h : Texts w B v xs) (hb : ∀ k, v.ownBlock = some k → w'.heap[k]? = w.heap[k]?) : Texts w' B v xs := Vd.ownsRow_at h hb
theorem Texts.below {w w' : World} {B : Nat} {v : Value} {xs : List Bat} (h : Texts w B v xs) (hb : Below w.heap.size w w') : Texts w' B v xs :=
  h.same fun k hk => hb.block k (World.ownsRow.lt h k hk).2
theorem Texts.form {w : World} {B : Nat} {v : Value} {xs : List Bat} (h : Texts w B v xs) : ∃ ap cap, v = .slice ap xs.length cap := by
  rcases h.2 with ⟨h1, h2⟩ | ⟨g, cap, cur, h1, _⟩
  · exact ⟨none, 0, by rw [h1, h2]⟩
  · exact ⟨_, cap, h1⟩
theorem Texts.cell {w : World} {B : Nat} {ap : Option Addr} {n cap : Nat} {xs : List Bat} (h : Texts w B (.slice ap n cap) xs) (k : Nat) (hk : k < xs.length) :
    ∃ g, ap = some ⟨g, 0, none⟩ ∧ w.cell? ⟨g, k, none⟩ = some (.string (Bt.str xs[k].l)) := by
  obtain ⟨g, c, hv, _, _⟩ := World.ownsRow.form h (by omega)
  simp only [Value.slice.injEq] at hv
  obtain ⟨h1, h2, h3⟩ := hv
  subst h1
  subst h2
  have := World.ownsRow.cellAt (g := g) (n := xs.length) (cap := cap) h k (by omega)
  refine ⟨g, rfl, ?_⟩
  rw [this, List.getElem?_map, List.getElem?_eq_getElem hk]
  rfl
set_option maxRecDepth 100000 in
theorem rhd_bat (x : Bat) (h : x.Ok) (w : World) :
    Calls Tryz.prog 32 #[.string (Bt.str x.l)] w fun e w' => e = .returned (.agg #[.int .i64 x.b, .int .i64 x.c, .int .i64 x.v, .int .i64 x.p, .int .i64 x.q, .slice none 0 0]) ∧ Below w.heap.size w w' := by
  have HX := Lib.hid (fun w => rhead_bat x h w)
  clear h
  go_enter Tryz.func32, Tryz.ntmps32
  go_wp2_with fail
  refine (HX.out _).mono ?_
  rintro e w1 ⟨rfl, hb⟩
  have hb0 := (Below.refl w.heap.size w).alloc (Nat.le_refl _) (.cells #[.int .i64 0, .int .i64 0, .int .i64 0, .int .i64 0, .int .i64 0, .slice none 0 0] 73)
  have hD1 := (hb.block _ (by show _ < (w.heap.push _).size; simp)).trans (heap_alloc_last w (.cells #[.int .i64 0, .int .i64 0, .int .i64 0, .int .i64 0, .int .i64 0, .slice none 0 0] 73))
  have hb1 := hb0.trans (hb.mono hb0.size)
  have hD := Rc.alloc_old (.cells #[.int .i64 x.b, .int .i64 x.c, .int .i64 x.v, .int .i64 x.p, .int .i64 x.q, .slice none 0 0] 73) hD1
  have HBB := Lib.hid (hb1.alloc hb1.size (.cells #[.int .i64 x.b, .int .i64 x.c, .int .i64 x.v, .int .i64 x.p, .int .i64 x.q, .slice none 0 0] 73))
  have HD := Lib.hid hD
  obtain ⟨d0, d1, d2, d3, d4, d5⟩ := cells6 hD
  have hfz := fun j => Lib.frozen_of_heap hD j
  clear hD hD1 hb hb0 hb1
  go_wp2_with fail
  have hF : (((((((w1.alloc (.cells #[.int .i64 x.b, .int .i64 x.c, .int .i64 x.v, .int .i64 x.p, .int .i64 x.q, .slice none 0 0] 73)).setCell ⟨w.heap.size, 0, none⟩ (.int .i64 x.b)).setCell ⟨w.heap.size, 1, none⟩ (.int .i64 x.c)).setCell ⟨w.heap.size, 2, none⟩ (.int .i64 x.v)).setCell ⟨w.heap.size, 3, none⟩ (.int .i64 x.p)).setCell ⟨w.heap.size, 4, none⟩ (.int .i64 x.q)).setCell ⟨w.heap.size, 5, none⟩ (.slice none 0 0)).heap[w.heap.size]? = some (.cells #[.int .i64 x.b, .int .i64 x.c, .int .i64 x.v, .int .i64 x.p, .int .i64 x.q, .slice none 0 0] 73 (0, 0)) := (Rc.set_cells _ (Rc.set_cells _ (Rc.set_cells _ (Rc.set_cells _ (Rc.set_cells _ (Rc.set_cells _ HD.out)))))).trans rfl
  have hFB : Below w.heap.size w (((((((w1.alloc (.cells #[.int .i64 x.b, .int .i64 x.c, .int .i64 x.v, .int .i64 x.p, .int .i64 x.q, .slice none 0 0] 73)).setCell ⟨w.heap.size, 0, none⟩ (.int .i64 x.b)).setCell ⟨w.heap.size, 1, none⟩ (.int .i64 x.c)).setCell ⟨w.heap.size, 2, none⟩ (.int .i64 x.v)).setCell ⟨w.heap.size, 3, none⟩ (.int .i64 x.p)).setCell ⟨w.heap.size, 4, none⟩ (.int .i64 x.q)).setCell ⟨w.heap.size, 5, none⟩ (.slice none 0 0)) := ((((((HBB.out).setCell (p := ⟨w.heap.size, 0, none⟩) (Nat.le_refl _) _).setCell (p := ⟨w.heap.size, 1, none⟩) (Nat.le_refl _) _).setCell (p := ⟨w.heap.size, 2, none⟩) (Nat.le_refl _) _).setCell (p := ⟨w.heap.size, 3, none⟩) (Nat.le_refl _) _).setCell (p := ⟨w.heap.size, 4, none⟩) (Nat.le_refl _) _).setCell (p := ⟨w.heap.size, 5, none⟩) (Nat.le_refl _) _
  generalize ((((((w1.alloc (.cells #[.int .i64 x.b, .int .i64 x.c, .int .i64 x.v, .int .i64 x.p, .int .i64 x.q, .slice none 0 0] 73)).setCell ⟨w.heap.size, 0, none⟩ (.int .i64 x.b)).setCell ⟨w.heap.size, 1, none⟩ (.int .i64 x.c)).setCell ⟨w.heap.size, 2, none⟩ (.int .i64 x.v)).setCell ⟨w.heap.size, 3, none⟩ (.int .i64 x.p)).setCell ⟨w.heap.size, 4, none⟩ (.int .i64 x.q)).setCell ⟨w.heap.size, 5, none⟩ (.slice none 0 0) = F at hF hFB ⊢
  obtain ⟨f0, f1, f2, f3, f4, f5⟩ := cells6 hF
  refine bodyPost_ret (v := .agg #[.int .i64 x.b, .int .i64 x.c, .int .i64 x.v, .int .i64 x.p, .int .i64 x.q, .slice none 0 0]) (by simp [results, Tryz.results32, go_sem, *]) rfl ⟨rfl, hFB⟩
theorem snoc_cases (xs : List Bat) : xs = [] ∨ ∃ ys x, xs = ys ++ [x] := by
  rcases List.eq_nil_or_concat xs with h | ⟨ys, x, h⟩
  · exact .inl h
  · exact .inr ⟨ys, x, by simpa using h⟩
theorem chain_bounds {base : Nat} {xs : List Bat} (h : Chain base xs) (k : Nat) (hk : k < xs.length) : xs[k].b ≤ 1099511627520 ∧ xs[k].c ≤ 256 := by
  have := (h.get k hk).1.bounds
  omega
set_option maxRecDepth 100000 in
/-- where batches end -/
theorem r_end {w : World} {B : Nat} {v : Value} {xs : List Bat} (base : Nat) (h : Texts w B v xs) (hC : Chain base xs) (hn : xs.length ≤ 1048576) :
    Calls Tryz.prog 13 #[v, .int .i64 base] w fun e w' => e = .returned (.int .i64 (endOf base xs)) ∧ Below w.heap.size w w' := by
  obtain ⟨ap, cap, rfl⟩ := h.form
  rcases snoc_cases xs with rfl | ⟨ys, x, rfl⟩
  · clear h hC
    go_enter Tryz.func13, Tryz.ntmps13
    go_wp2
    go_ret
    exact ⟨rfl, Below.refl _ _⟩
  · have hk : ys.length < (ys ++ [x]).length := by simp
    obtain ⟨g, rfl, hc⟩ := h.cell ys.length hk
    have hx : (ys ++ [x])[ys.length] = x := by simp
    rw [hx] at hc
    obtain ⟨hok, hxb⟩ := hC.get ys.length hk
    rw [hx] at hok hxb
    have he : endOf base (ys ++ [x]) = x.b + x.c := by rw [endOf_snoc, hxb]; simp
    rw [he]
    have hbd := hok.bounds
    have hl := World.ownsRow.lt h
    rw [show (ys ++ [x]).length = ys.length + 1 from by simp]
    have HX := Lib.hid (fun w => rhd_bat x hok w)
    have n0 : (((ys.length + 1 : Nat) : Int) == 0) = false := beq_eq_false_iff_ne.2 (by omega)
    have hyl : ys.length ≤ 1048576 := by simp at hn; omega
    clear h hC hok hxb he hx hk hl hn
    go_enter Tryz.func13, Tryz.ntmps13
    go_wp2_with fail
    refine (HX.out _).mono ?_
    rintro e w1 ⟨rfl, hb⟩
    have HB := Lib.hid hb
    clear hb
    go_wp2
    go_ret
    exact ⟨rfl, HB.out.alloc HB.out.size _⟩
/-- which batch has an offset -/
def HavePost (xs : List Bat) (o : Int) (e : Ending) : Prop :=
  (∃ (k : Nat) (h : k < xs.length), (xs[k].b : Int) ≤ o ∧ o < (xs[k].b : Int) + xs[k].c ∧ e = .returned (.int .i64 k)) ∨
  ((∀ (k : Nat) (h : k < xs.length), ¬ ((xs[k].b : Int) ≤ o ∧ o < (xs[k].b : Int) + xs[k].c)) ∧ e = .returned (.int .i64 (-1)))
set_option maxRecDepth 100000 in
set_option maxHeartbeats 2000000 in
theorem r_having {w : World} {B : Nat} {v : Value} {xs : List Bat} (o : Int) (h : Texts w B v xs) (hok : ∀ k (hk : k < xs.length), xs[k].Ok) (hn : xs.length ≤ 1048576) :
    Calls Tryz.prog 40 #[v, .int .i64 o] w fun e w' => HavePost xs o e ∧ Below w.heap.size w w' := by
  obtain ⟨ap, cap, rfl⟩ := h.form
  have HT := Lib.hid h
  have HO := Lib.hid hok
  clear h hok
  go_enter Tryz.func40, Tryz.ntmps40
  go_wp2_with fail
  go_loopw [5] (fun i wr => ∃ k : Nat, i = .int .i64 k ∧ k ≤ xs.length ∧ Below w.heap.size w wr ∧ ∀ j (hj : j < xs.length), j < k → ¬ ((xs[j].b : Int) ≤ o ∧ o < (xs[j].b : Int) + xs[j].c)) (fun i _ => xs.length - (intOf i).toNat)
  case atStart => exact ⟨0, rfl, by omega, Below.refl _ _, fun j _ hj => by omega⟩
  case round =>
    obtain ⟨k, rfl, hk, hbw, hno⟩ := hrel
    have HW := Lib.hid hbw
    have HNO := Lib.hid hno
    clear hbw hno
    by_cases hlt : k < xs.length
    · have hlt' : (k : Int) < (xs.length : Int) := by omega
      have hk0 : (0 : Int) ≤ (k : Int) := by omega
      obtain ⟨g, hap, hc⟩ := (HT.out.below HW.out).cell k hlt
      subst hap
      obtain ⟨x, hx⟩ : ∃ x, x = xs[k] := ⟨_, rfl⟩
      rw [← hx] at hc
      have hxo : x.Ok := by rw [hx]; exact HO.out k hlt
      have hbd := hxo.bounds
      have HX := Lib.hid (fun w => rhd_bat x hxo w)
      have HXX := Lib.hid hx
      clear hx hxo
      go_wp2_with fail
      refine (HX.out _).mono ?_
      rintro e w1 ⟨rfl, hb⟩
      have HB := Lib.hid (HW.out.trans (hb.mono HW.out.size))
      clear hb
      by_cases h1 : (x.b : Int) ≤ o
      · by_cases h2 : o < (x.b : Int) + x.c
        · go_wp2
          go_ret
          refine ⟨.inl ⟨k, hlt, by rw [← HXX.out]; exact h1, by rw [← HXX.out]; exact h2, rfl⟩, HB.out.alloc HB.out.size _⟩
        · go_wp2
          go_roundw
          case rel => exact ⟨k + 1, by go_num, by omega, HB.out.alloc HB.out.size _, fun j hj hjk => by
            by_cases e : j = k
            · subst e; rw [← HXX.out]; omega
            · exact HNO.out j hj (by omega)⟩
          case measure => simp [intOf]; omega
      · go_wp2
        go_roundw
        case rel => exact ⟨k + 1, by go_num, by omega, HB.out.alloc HB.out.size _, fun j hj hjk => by
          by_cases e : j = k
          · subst e; rw [← HXX.out]; omega
          · exact HNO.out j hj (by omega)⟩
        case measure => simp [intOf]; omega
    · obtain rfl : k = xs.length := by omega
      have hlt' : ¬ (xs.length : Int) < (xs.length : Int) := by omega
      clear hlt
      go_wp2
      go_ret
      exact ⟨.inr ⟨fun j hj => HNO.out j hj hj, rfl⟩, HW.out⟩
end Go.Proofs.YtnhemmjbodhjeaaGreat.Sg
