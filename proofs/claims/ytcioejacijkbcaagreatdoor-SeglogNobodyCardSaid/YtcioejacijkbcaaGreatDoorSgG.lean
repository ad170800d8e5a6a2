/- segment: find. -/
import Derived.Test.YtcioejacijkbcaaGreatDoorSgP
import Derived.WalkMore
namespace Go.Proofs.YtcioejacijkbcaaGreatDoor.Sg
open Go.RowKit Go.Maps Go.ChangeMaps Go.WideMaps Go.Proofs.YtcioejacijkbcaaGreatDoor.Vd Go.Proofs.YtcioejacijkbcaaGreatDoor.Rc Go.Proofs.YtcioejacijkbcaaGreatDoor.Ba Go.Proofs.YtcioejacijkbcaaGreatDoor.Rg
set_option linter.unusedVariables false
set_option linter.unusedSimpArgs false
set_option maxRecDepth 100000 in
set_option maxHeartbeats 1000000 in
theorem find_out {w : World} {bs bd : Nat} {name : ByteArray} {base en size n : Nat} {mv : Value} {ms : List (Nat × Nat)} (S : SgAt w bs bd name base en size n mv ms) (o : Int) (h : o < base ∨ (en : Int) ≤ o) :
    Calls Tryz.prog 78 #[.pointer (some ⟨bs, 0, none⟩), .int .i64 o] w fun e w' => e = .returned (.tuple #[zb, .int .i64 0, .int .i64 0, .int .i64 0, .bool false]) ∧ Below w.heap.size w w' := by
  have hz := Nat.le_refl w.heap.size
  have HZ := Lib.hid hz
  have HS := Lib.hid S
  clear hz S
  unfold zb
  go_enter Tryz.func78, Tryz.ntmps78
  go_upto_region 1 with (fail)
  refine genw ?_
  intro W hW
  have HB : Below w.heap.size w W := by rw [hW]; exact (Below.refl w.heap.size w).alloc HZ.out _
  have hc : W.heap[w.heap.size]? = some (.cells #[.int .i64 0, .int .i64 0, .int .i64 0, .int .i64 0, .int .i64 0, .slice none 0 0] 59 (0, 0)) := by rw [hW]; exact heap_alloc_last w _
  clear hW
  have SW := HS.out.below HB
  have HBB := Lib.hid HB
  have HCC := Lib.hid hc
  have HHH := Lib.hid (show w.heap.size < W.heap.size from Vd.lt_of_heap hc)
  obtain ⟨c0, c1, c2, c3, c4, c5, c6⟩ := cells7 SW.cell
  obtain ⟨z0, z1, z2, z3, z4, z5⟩ := cells6 hc
  have hfz : ∀ j, W.frozen? ⟨w.heap.size, j, none⟩ = false := fun j => Lib.frozen_of_heap hc j
  clear SW HB hc
  go_step3
  rcases h with h | h
  · have d1 : decide (o < (base : Int)) = true := by simpa using h
    go_wp2
    try rw [Exit.noGoto_ret]
    refine bodyPost_ret (v := .tuple #[zb, .int .i64 0, .int .i64 0, .int .i64 0, .bool false]) (by simp [results, Tryz.results78, go_sem, zb, *]) rfl ⟨rfl, ?_⟩
    exact below6 HBB.out _ _ _ _ _ _
  · by_cases h2 : o < (base : Int)
    · have d1 : decide (o < (base : Int)) = true := by simpa using h2
      go_wp2
      try rw [Exit.noGoto_ret]
      refine bodyPost_ret (v := .tuple #[zb, .int .i64 0, .int .i64 0, .int .i64 0, .bool false]) (by simp [results, Tryz.results78, go_sem, zb, *]) rfl ⟨rfl, ?_⟩
      exact below6 HBB.out _ _ _ _ _ _
    · have d1 : decide (o < (base : Int)) = false := by simpa using h2
      have d2 : decide ((en : Int) ≤ o) = true := by simpa using h
      go_wp2
      try rw [Exit.noGoto_ret]
      refine bodyPost_ret (v := .tuple #[zb, .int .i64 0, .int .i64 0, .int .i64 0, .bool false]) (by simp [results, Tryz.results78, go_sem, zb, *]) rfl ⟨rfl, ?_⟩
      exact below6 HBB.out _ _ _ _ _ _
theorem mcells_get : ∀ (ms : List (Nat × Nat)) (j : Nat) (h : j < ms.length), (mcells ms)[j * 2]? = some (.int .i64 ms[j].1) ∧ (mcells ms)[j * 2 + 1]? = some (.int .i64 ms[j].2)
  | m :: ms, 0, _ => ⟨rfl, rfl⟩
  | m :: ms, j + 1, h => by
    have := mcells_get ms j (by simpa using h)
    have e : mcells (m :: ms) = .int .i64 m.1 :: .int .i64 m.2 :: mcells ms := rfl
    rw [e, show (j + 1) * 2 = j * 2 + 1 + 1 by omega]
    simpa using this
theorem mark_cells {w : World} {g cap n : Nat} {ms : List (Nat × Nat)} (h : w.ownsRow 0 144 2 (.slice (some ⟨g, 0, none⟩) n cap) n (mcells ms)) (hn : n = ms.length) (j : Nat) (hj : j < ms.length) :
    w.cell? ⟨g, j * 2, none⟩ = some (.int .i64 ms[j].1) ∧ w.cell? ⟨g, j * 2 + 1, none⟩ = some (.int .i64 ms[j].2) := by
  obtain ⟨h1, h2⟩ := mcells_get ms j hj
  exact ⟨(World.ownsRow.cellAt h _ (by omega)).trans h1, (World.ownsRow.cellAt h _ (by omega)).trans h2⟩
theorem len_text : ∀ {xs : List Bat} {b : Nat}, Chain b xs → xs.length ≤ (text xs).length
  | [], _, _ => by simp
  | x :: xs, b, ⟨h1, _, h3⟩ => by
    have := len_text h3
    have := h1.len
    rw [text_cons, List.length_append, List.length_cons]; omega
theorem set6 {w : World} {b : Nat} {v0 v1 v2 v3 v4 v5 : Value} {t : TypeId} {fr : Nat × Nat} (h : w.heap[b]? = some (.cells #[v0, v1, v2, v3, v4, v5] t fr)) (x0 x1 x2 x3 x4 x5 : Value) :
    ((((((w.setCell ⟨b, 0, none⟩ x0).setCell ⟨b, 1, none⟩ x1).setCell ⟨b, 2, none⟩ x2).setCell ⟨b, 3, none⟩ x3).setCell ⟨b, 4, none⟩ x4).setCell ⟨b, 5, none⟩ x5).heap[b]? = some (.cells #[x0, x1, x2, x3, x4, x5] t fr) := by
  rw [Vd.setCell_block (Vd.setCell_block (Vd.setCell_block (Vd.setCell_block (Vd.setCell_block (Vd.setCell_block h 0 x0) 1 x1) 2 x2) 3 x3) 4 x4) 5 x5]; rfl
/-- while the batches are passed over: from mark A on, the first of which is number j -/
def FindRel (w : World) (xs : List Bat) (base o A j : Nat) (av nv kv fv : Value) (w' : World) : Prop :=
  ∃ (K : Nat) (v0 v1 v2 v3 v4 v5 : Value), K < xs.length ∧ j ≤ K ∧ av = .int .i64 A ∧ kv = .int .i64 K ∧ fv = .int .i64 (offs xs K - A : Nat) ∧ endOf base (xs.take K) ≤ o ∧ Below w.heap.size w w' ∧
    w'.heap[w.heap.size]? = some (.cells #[v0, v1, v2, v3, v4, v5] 59 (0, 0))
/-- what find leaves of an offset that is there -/
def FindPost (xs : List Bat) (base o : Nat) (e : Ending) : Prop :=
  ∃ (k : Nat) (h : k < xs.length), endOf base (xs.take k) ≤ o ∧ o < endOf base (xs.take k) + xs[k].c ∧
    e = .returned (.tuple #[.agg #[.int .i64 xs[k].b, .int .i64 xs[k].c, .int .i64 xs[k].v, .int .i64 xs[k].p, .int .i64 xs[k].q, .slice none 0 0], .int .i64 (offs xs k), .int .i64 xs[k].l.length, .int .i64 k, .bool true])
set_option maxRecDepth 100000 in
set_option maxHeartbeats 2000000 in
theorem find_in {w : World} {bs bd bm room base : Nat} {fs : List Fil} {mv : Value} (xs : List Bat) (hC : Chain base xs) (f : Fil) (hf : f ∈ fs) (hfb : f.b = text xs) (D : DiskAt w bd bm room fs)
    (S : SgAt w bs bd f.name base (endOf base xs) (text xs).length xs.length mv (marks xs)) (o : Nat) (h0 : base ≤ o) (h1 : o < endOf base xs) :
    Calls Tryz.prog 78 #[.pointer (some ⟨bs, 0, none⟩), .int .i64 o] w fun e w' => FindPost xs base o e ∧ Below w.heap.size w w' := by
  have hle := le_total hf
  have hroom := D.roomy
  have hsm := D.small
  have htx : (text xs).length ≤ 16777216 := by rw [← hfb]; omega
  clear hle hroom hsm
  have HZ := Lib.hid (Nat.le_refl w.heap.size)
  have HS := Lib.hid S
  have HD := Lib.hid D
  have HC := Lib.hid hC
  have HFB := Lib.hid hfb
  clear S D hC hfb
  have d1 : decide (o < base) = false := by simpa using h0
  have d2 : decide (endOf base xs ≤ o) = false := by simpa using h1
  go_enter Tryz.func78, Tryz.ntmps78
  go_upto_region 1 with (fail)
  refine genw ?_
  intro W hW
  have HB : Below w.heap.size w W := by rw [hW]; exact (Below.refl w.heap.size w).alloc HZ.out _
  have hc : W.heap[w.heap.size]? = some (.cells #[.int .i64 0, .int .i64 0, .int .i64 0, .int .i64 0, .int .i64 0, .slice none 0 0] 59 (0, 0)) := by rw [hW]; exact heap_alloc_last w _
  clear hW
  have SW := HS.out.below HB
  have HBB := Lib.hid HB
  have HCC := Lib.hid hc
  obtain ⟨c0, c1, c2, c3, c4, c5, c6⟩ := cells7 SW.cell
  clear SW HB hc
  have hne : 0 < xs.length := by
    rcases Nat.eq_zero_or_pos xs.length with h | h
    · rw [List.length_eq_zero_iff] at h; subst h; simp [endOf] at h1; omega
    · exact h
  have hml : 0 < (marks xs).length := by rw [marks_length]; omega
  obtain ⟨g, cap, rfl, -, hg⟩ := World.ownsRow.form HS.out.own hml
  have HO := Lib.hid (HS.out.below HBB.out).own
  have hmu : (marks xs).length ≤ 16777216 := by
    have : xs.length ≤ (text xs).length := len_text HC.out
    rw [marks_length]; omega
  go_step3
  go_wp2_with fail
  go_quiet (fail)
  go_wp2_with fail
  refine genw ?_
  intro W1 hW1
  have hB1 : Below w.heap.size w W1 := by rw [hW1]; exact HBB.out.trans ⟨rfl, rfl, rfl, Nat.le_refl _, fun _ _ => rfl⟩
  have hc1 : W1.heap[w.heap.size]? = some (.cells #[.int .i64 0, .int .i64 0, .int .i64 0, .int .i64 0, .int .i64 0, .slice none 0 0] 59 (0, 0)) := by rw [hW1]; exact HCC.out
  clear hW1 c0 c1 c2 c3 c4 c5 c6 HO HBB HCC
  have SW1 := HS.out.below hB1
  have HO := Lib.hid SW1.own
  have HB1 := Lib.hid hB1
  have HC1 := Lib.hid hc1
  have HS1 := Lib.hid SW1
  obtain ⟨c0, c1, c2, c3, c4, c5, c6⟩ := cells7 SW1.cell
  clear SW1 hB1 hc1
  go_step3
  go_wp2_with fail
  go_loopw [9, 10] (fun lo hi w' => ∃ l h : Nat, lo = .int .i64 l ∧ hi = .int .i64 h ∧ l < h ∧ h ≤ (marks xs).length ∧ endOf base (xs.take (4 * l)) ≤ o ∧ w' = W1) (fun lo hi _ => (intOf hi - intOf lo).toNat)
  case atStart => exact ⟨0, _, rfl, rfl, hml, Nat.le_refl _, by simpa [endOf] using h0, rfl⟩
  case round =>
    obtain ⟨l, h, rfl, rfl, hlh, hhm, hlo, hww⟩ := hrel
    subst hww
    have HLO := Lib.hid hlo
    clear hlo
    have hmm := marks_length xs
    have hxl : xs.length ≤ 16777216 := Nat.le_trans (len_text HC.out) htx
    by_cases hx : 1 < h - l
    · have d3 : decide (1 < (h : Int) - (l : Int)) = true := by simp; omega
      have hM : (l + h) / 2 < (marks xs).length := by omega
      obtain ⟨m0, m1⟩ := mark_cells HO.out rfl _ hM
      rw [marks_get] at m0 m1
      simp only at m0 m1
      have h4 : 4 * ((l + h) / 2) < xs.length := by omega
      have hgb : (xs.getD (4 * ((l + h) / 2)) default).b = endOf base (xs.take (4 * ((l + h) / 2))) := by
        rw [List.getD_eq_getElem?_getD, List.getElem?_eq_getElem h4]
        exact (HC.out.get _ h4).2
      rw [hgb] at m0
      have HL := Lib.hid hlh
      have HM := Lib.hid hhm
      have hmid : ((l : Int) + (h : Int)) / 2 = (((l + h) / 2 : Nat) : Int) := by omega
      have hlu : l < h := hlh
      have hhu : h ≤ 16777216 := by omega
      generalize hmd : (l + h) / 2 = md at *
      have hmd1 : l < md ∧ md < h := by omega
      obtain ⟨q1, q2⟩ := hmd1
      clear hmd hgb h4
      by_cases ho : endOf base (xs.take (4 * md)) ≤ o
      · have d4 : decide ((endOf base (xs.take (4 * md)) : Int) ≤ (o : Int)) = true := by simpa using ho
        have HOO := Lib.hid ho
        clear ho
        go_wp2_with fail
        refine ⟨⟨md, h, by rw [hmid], rfl, q2, HM.out, HOO.out, trivial⟩, ?_⟩
        simp only [intOf]
        omega
      · have d4 : decide ((endOf base (xs.take (4 * md)) : Int) ≤ (o : Int)) = false := by simpa using ho
        have HOO := Lib.hid ho
        clear ho
        go_wp2_with fail
        refine ⟨⟨l, md, rfl, by rw [hmid], q1, by omega, HLO.out, trivial⟩, ?_⟩
        simp only [intOf]
        omega
    · have d3 : decide (1 < (h : Int) - (l : Int)) = false := by simp; omega
      have hM : l < (marks xs).length := by omega
      obtain ⟨m0, m1⟩ := mark_cells HO.out rfl _ hM
      rw [marks_get] at m0 m1
      simp only at m0 m1
      have h4 : 4 * l < xs.length := by omega
      have hol : offs xs (4 * l) ≤ (text xs).length := offs_le _ _
      have H4 := Lib.hid h4
      have hlu : l ≤ 16777216 := by omega
      go_upto_region 10 with (fail)
      have hsub : IntKind.i64.wrap (((text xs).length - offs xs (4 * l) : Nat) : Int) = (((text xs).length - offs xs (4 * l) : Nat) : Int) := IntWalk.i64_in _ (by omega)
      have hsub2 : ((text xs).length : Int) - (offs xs (4 * l) : Int) = (((text xs).length - offs xs (4 * l) : Nat) : Int) := by omega
      have HBL := Lib.hid (Vd.lt_of_heap HS1.out.cell)
      have HRD := Lib.hid (show ∀ W, Below wr.heap.size wr W → Calls Tryz.prog 28 #[.pointer (some ⟨bd, 0, none⟩), .string f.name, .int .i64 (offs xs (4 * l)), .int .i64 ((text xs).length - offs xs (4 * l) : Nat)] W fun e w' => e = .returned (.tuple #[.string (str (((text xs).drop (offs xs (4 * l))).take ((text xs).length - offs xs (4 * l)))), .int .i64 0]) ∧ Below W.heap.size W w' from fun W hW => by
        have h := read_some (HD.out.below (HB1.out.trans (hW.mono HB1.out.size))) f hf f.name rfl (offs xs (4 * l)) ((text xs).length - offs xs (4 * l)) (by rw [HFB.out]; omega)
        rw [HFB.out] at h
        exact h)
      have hrl := Nat.le_refl wr.heap.size
      have HR0 := Lib.hid ((Below.refl wr.heap.size wr).drew)
      refine wp_region_seqo [0, 1, 2, 3, 4, 5, 6, 7, 8, 9, 10, 11, 12, 13, 14, 15, 16, 17, 18, 19, 20] (S := (fun w' => Below wr.heap.size wr w' ∧ w'.cell? ⟨bs, 0, none⟩ = some (.pointer (some ⟨bd, 0, none⟩)) ∧ w'.cell? ⟨bs, 1, none⟩ = some (.string f.name) ∧ w'.cell? ⟨bs, 4, none⟩ = some (.int .i64 (text xs).length))) (by kernel_rfl) (by kernel_rfl) ⟨HR0.out, c0, c1, c4⟩ ?_
      refine Seqo.light (v := ?_) rfl (by kernel_rfl) ?_ ?_
      rotate_left 1
      focus (intro w hSw; (try dsimp only at hSw); go_simp; try with_reducible rfl)
      try simp only [Act.put, List.setIfInBounds_toArray, List.set_cons_zero, List.set_cons_succ]
      refine Seqo.light (v := ?_) rfl (by kernel_rfl) ?_ ?_
      rotate_left 1
      focus (intro w hSw; (try dsimp only at hSw); go_simp; try with_reducible rfl)
      try simp only [Act.put, List.setIfInBounds_toArray, List.set_cons_zero, List.set_cons_succ]
      refine Seqo.light (v := ?_) rfl (by kernel_rfl) ?_ ?_
      rotate_left 1
      focus (intro w hSw; (try dsimp only at hSw); go_simp; try with_reducible rfl)
      try simp only [Act.put, List.setIfInBounds_toArray, List.set_cons_zero, List.set_cons_succ]
      refine Seqo.light (v := ?_) rfl (by kernel_rfl) ?_ ?_
      rotate_left 1
      focus (intro w hSw; (try dsimp only at hSw); go_simp; try with_reducible rfl)
      try simp only [Act.put, List.setIfInBounds_toArray, List.set_cons_zero, List.set_cons_succ]
      refine Seqo.light (v := ?_) rfl (by kernel_rfl) ?_ ?_
      rotate_left 1
      focus (intro w hSw; (try dsimp only at hSw); go_simp; try with_reducible rfl)
      try simp only [Act.put, List.setIfInBounds_toArray, List.set_cons_zero, List.set_cons_succ]
      refine Seqo.light (v := ?_) rfl (by kernel_rfl) ?_ ?_
      rotate_left 1
      focus (intro w hSw; (try dsimp only at hSw); go_simp; try with_reducible rfl)
      try simp only [Act.put, List.setIfInBounds_toArray, List.set_cons_zero, List.set_cons_succ]
      refine Seqo.light (v := ?_) rfl (by kernel_rfl) ?_ ?_
      rotate_left 1
      focus (intro w hSw; (try dsimp only at hSw); go_simp; try with_reducible rfl)
      try simp only [Act.put, List.setIfInBounds_toArray, List.set_cons_zero, List.set_cons_succ]
      refine Seqo.light (v := ?_) rfl (by kernel_rfl) ?_ ?_
      rotate_left 1
      focus (intro w hSw; (try dsimp only at hSw); go_simp; try with_reducible rfl)
      try simp only [Act.put, List.setIfInBounds_toArray, List.set_cons_zero, List.set_cons_succ]
      refine Seqo.light (v := ?_) rfl (by kernel_rfl) ?_ ?_
      rotate_left 1
      focus (intro w hSw; (try dsimp only at hSw); go_simp; try with_reducible rfl)
      try simp only [Act.put, List.setIfInBounds_toArray, List.set_cons_zero, List.set_cons_succ]
      refine Seqo.light (v := ?_) rfl (by kernel_rfl) ?_ ?_
      rotate_left 1
      focus (intro w hSw; (try dsimp only at hSw); go_simp; try with_reducible rfl)
      try simp only [Act.put, List.setIfInBounds_toArray, List.set_cons_zero, List.set_cons_succ]
      refine Seqo.light (v := ?_) rfl (by kernel_rfl) ?_ ?_
      rotate_left 1
      focus (intro w hSw; (try dsimp only at hSw); go_simp; try with_reducible rfl)
      try simp only [Act.put, List.setIfInBounds_toArray, List.set_cons_zero, List.set_cons_succ]
      refine Seqo.light (v := ?_) rfl (by kernel_rfl) ?_ ?_
      rotate_left 1
      focus (intro w hSw; (try dsimp only at hSw); go_simp; try with_reducible rfl)
      try simp only [Act.put, List.setIfInBounds_toArray, List.set_cons_zero, List.set_cons_succ]
      refine Seqo.light (v := ?_) rfl (by kernel_rfl) ?_ ?_
      rotate_left 1
      focus (intro w hSw; (try dsimp only at hSw); go_simp; try with_reducible rfl)
      try simp only [Act.put, List.setIfInBounds_toArray, List.set_cons_zero, List.set_cons_succ]
      refine Seqo.light (v := ?_) rfl (by kernel_rfl) ?_ ?_
      rotate_left 1
      focus (intro w hSw; (try dsimp only at hSw); go_simp; try with_reducible rfl)
      try simp only [Act.put, List.setIfInBounds_toArray, List.set_cons_zero, List.set_cons_succ]
      refine Seqo.light (v := ?_) rfl (by kernel_rfl) ?_ ?_
      rotate_left 1
      focus (intro w hSw; (try dsimp only at hSw); go_simp; try with_reducible rfl)
      try simp only [Act.put, List.setIfInBounds_toArray, List.set_cons_zero, List.set_cons_succ]
      refine Seqo.call (.tuple #[.string (str (((text xs).drop (offs xs (4 * l))).take ((text xs).length - offs xs (4 * l)))), .int .i64 0]) rfl (by kernel_rfl) (by kernel_rfl) (fun w hSw => by (try dsimp only at hSw); go_simp; exact ⟨rfl, rfl⟩) ?_ ?_
      · intro w3 hSw
        refine (HRD.out w3 hSw.1).mono ?_
        rintro e w4 ⟨rfl, hb4⟩
        obtain ⟨d0, d1, d2, d3⟩ := hSw
        exact ⟨rfl, d0.trans (hb4.mono d0.size), (hb4.cell (p := ⟨bs, 0, none⟩) (Nat.lt_of_lt_of_le HBL.out d0.size)).trans d1, (hb4.cell (p := ⟨bs, 1, none⟩) (Nat.lt_of_lt_of_le HBL.out d0.size)).trans d2, (hb4.cell (p := ⟨bs, 4, none⟩) (Nat.lt_of_lt_of_le HBL.out d0.size)).trans d3⟩
      try simp only [Act.put, List.setIfInBounds_toArray, List.set_cons_zero, List.set_cons_succ]
      refine Seqo.light (v := ?_) rfl (by kernel_rfl) ?_ ?_
      rotate_left 1
      focus (intro w hSw; (try dsimp only at hSw); go_simp; try with_reducible rfl)
      try simp only [Act.put, List.setIfInBounds_toArray, List.set_cons_zero, List.set_cons_succ]
      refine Seqo.light (v := ?_) rfl (by kernel_rfl) ?_ ?_
      rotate_left 1
      focus (intro w hSw; (try dsimp only at hSw); go_simp; try with_reducible rfl)
      try simp only [Act.put, List.setIfInBounds_toArray, List.set_cons_zero, List.set_cons_succ]
      refine Seqo.light (v := ?_) rfl (by kernel_rfl) ?_ ?_
      rotate_left 1
      focus (intro w hSw; (try dsimp only at hSw); go_simp; try with_reducible rfl)
      try simp only [Act.put, List.setIfInBounds_toArray, List.set_cons_zero, List.set_cons_succ]
      refine Seqo.light (v := ?_) rfl (by kernel_rfl) ?_ ?_
      rotate_left 1
      focus (intro w hSw; (try dsimp only at hSw); go_simp; try with_reducible rfl)
      try simp only [Act.put, List.setIfInBounds_toArray, List.set_cons_zero, List.set_cons_succ]
      refine Seqo.light (v := ?_) rfl (by kernel_rfl) ?_ ?_
      rotate_left 1
      focus (intro w hSw; (try dsimp only at hSw); go_simp; try with_reducible rfl)
      try simp only [Act.put, List.setIfInBounds_toArray, List.set_cons_zero, List.set_cons_succ]
      refine Seqo.nil fun w5 hS5 => ?_
      obtain ⟨hb5, c0, c1, c4⟩ := hS5
      have HB5 := Lib.hid (HB1.out.trans (hb5.mono HB1.out.size))
      have hc5 := (hb5.block _ (Vd.lt_of_heap HC1.out)).trans HC1.out
      have HC5 := Lib.hid hc5
      clear hb5 hc5 HB1 HC1 HO HS1 m0 m1 HRD HBL HR0 c2 c3 c5 c6
      have hT : (str (((text xs).drop (offs xs (4 * l))).take ((text xs).length - offs xs (4 * l)))).data.toList = (text xs).drop (offs xs (4 * l)) := by
        show (List.toArray _).toList = _
        rw [List.take_of_length_le (by rw [List.length_drop]; exact Nat.le_refl _)]
      have hTs : (str (((text xs).drop (offs xs (4 * l))).take ((text xs).length - offs xs (4 * l)))).size = (text xs).length - offs xs (4 * l) := by rw [Bt.size_data, hT, List.length_drop]
      generalize str (((text xs).drop (offs xs (4 * l))).take ((text xs).length - offs xs (4 * l))) = T at hT hTs ⊢
      have HT := Lib.hid hT
      clear hT hsub hsub2 d1 d2 d3 c0 c1 c4 hlh hhm hM h4 hlu hmm
      go_wp2_with fail
      go_loopw [5, 6, 7, 14] (FindRel w xs base o (offs xs (4 * l)) (4 * l)) (fun _ _ k _ _ => (xs.length - intOf k).toNat)
      case atStart =>
        exact ⟨4 * l, _, _, _, _, _, _, H4.out, Nat.le_refl _, rfl, by simp; omega, by simp, HLO.out, HB5.out, HC5.out⟩
      case round =>
        obtain ⟨K, v0, v1, v2, v3, v4, v5, hK, hjK, rfl, rfl, rfl, hKo, hbK, hcK⟩ := hrel
        have hmono := offs_mono xs hjK
        have hoK := offs_le xs K
        obtain ⟨hOk, hbb⟩ := HC.out.get K hK
        have hdrop : (T.extract (offs xs K - offs xs (4 * l)) T.size).data.toList = xs[K].l ++ text (xs.drop (K + 1)) := by
          rw [Bt.extract_rest, HT.out, List.drop_drop, ← text_drop xs K hK]
          congr 1; omega
        have hbn := hOk.bounds
        obtain ⟨hl1, hl2⟩ := hOk.len
        have hnext := endOf_take_succ base xs K hK
        have hoffs := offs_succ xs K hK
        have hoK1 := offs_le xs (K + 1)
        have hlast : K + 1 = xs.length → endOf base (xs.take (K + 1)) = endOf base xs := fun e => by rw [e, List.take_length]
        generalize hxk : xs[K] = x at *
        have hhd := head_bat x hOk _ _ hdrop (by have := hTs; simp; omega)
        rw [hTs] at hhd
        have HH := Lib.hid hhd
        clear hhd
        have HBK := Lib.hid hbK
        have HCK := Lib.hid hcK
        have HX := Lib.hid hxk
        have HBB := Lib.hid hbb
        have HNX := Lib.hid hnext
        have HKO := Lib.hid hKo
        have HLA := Lib.hid hlast
        obtain ⟨z0, z1, z2, z3, z4, z5⟩ := cells6 hcK
        clear hbK hcK hxk hbb hnext hKo hlast hdrop hOk
        have hF : offs xs K - offs xs (4 * l) ≤ T.size := by omega
        generalize hFF : offs xs K - offs xs (4 * l) = F at *
        have HFF := Lib.hid hFF
        clear hFF
        go_wp2_with fail
        refine (HH.out _).mono ?_
        rintro e w6 ⟨rfl, hb6⟩
        have hbK6 := HBK.out.trans (hb6.mono HBK.out.size)
        have hcK6 := (hb6.block _ (Vd.lt_of_heap HCK.out)).trans HCK.out
        have HBK6 := Lib.hid hbK6
        have HCK6 := Lib.hid hcK6
        clear z0 z1 z2 z3 z4 z5 HCK HBK hb6 hbK6 HH
        obtain ⟨z0, z1, z2, z3, z4, z5⟩ := cells6 hcK6
        have hfz : ∀ j, w6.frozen? ⟨w.heap.size, j, none⟩ = false := fun j => Lib.frozen_of_heap hcK6 j
        clear hcK6
        go_upto_region 14 with (fail)
        refine genw ?_
        intro W7 hW7
        have hb7 : Below w.heap.size w W7 := by rw [hW7]; exact below6 HBK6.out _ _ _ _ _ _
        have hc7 : W7.heap[w.heap.size]? = some (.cells #[.int .i64 x.b, .int .i64 x.c, .int .i64 x.v, .int .i64 x.p, .int .i64 x.q, .slice none 0 0] 59 (0, 0)) := by rw [hW7]; exact set6 HCK6.out _ _ _ _ _ _
        clear hW7 HCK6 HBK6 z0 z1 z2 z3 z4 z5 hfz
        have HB7 := Lib.hid hb7
        have HC7 := Lib.hid hc7
        obtain ⟨z0, z1, z2, z3, z4, z5⟩ := cells6 hc7
        have hfz : ∀ j, W7.frozen? ⟨w.heap.size, j, none⟩ = false := fun j => Lib.frozen_of_heap hc7 j
        clear hb7 hc7
        obtain ⟨hb1, hb2, hb3, hb4⟩ := hbn
        by_cases hin : o < x.b + x.c
        · have d5 : decide ((o : Int) < (x.b : Int) + (x.c : Int)) = true := by simp; omega
          have HIN := Lib.hid hin
          have hsum : (offs xs (4 * l) : Int) + (F : Int) = (offs xs K : Int) := by have := HFF.out; omega
          go_wp2_with fail
          try rw [Exit.noGoto_ret]
          clear d5 hb1 hb2 hb3 hb4 hsum hin hoffs hoK1 hl1 hl2 hF hmono hoK
          refine bodyPost_ret (v := .tuple #[.agg #[.int .i64 x.b, .int .i64 x.c, .int .i64 x.v, .int .i64 x.p, .int .i64 x.q, .slice none 0 0], .int .i64 (offs xs K), .int .i64 x.l.length, .int .i64 K, .bool true]) (by simp [results, Tryz.results78, go_sem, *]) rfl ⟨?_, below6 HB7.out _ _ _ _ _ _⟩
          refine ⟨K, hK, HKO.out, ?_, ?_⟩
          · rw [HX.out]; have := HBB.out; have := HIN.out; omega
          · rw [HX.out]
        · have d5 : decide ((o : Int) < (x.b : Int) + (x.c : Int)) = false := by simp; omega
          have hK1 : K + 1 < xs.length := by
            rcases Nat.lt_or_ge (K + 1) xs.length with h | h
            · exact h
            · have e1 := HLA.out (by omega)
              have e2 := HNX.out
              have e3 := HBB.out
              omega
          have hko2 : endOf base (xs.take (K + 1)) ≤ o := by
            have e2 := HNX.out
            have e3 := HBB.out
            omega
          have HKO2 := Lib.hid hko2
          clear hko2
          have hfin : FindRel w xs base o (offs xs (4 * l)) (4 * l) (.int .i64 (offs xs (4 * l))) (.int .i64 x.l.length) (.int .i64 ((K : Int) + 1)) (.int .i64 ((F : Int) + x.l.length)) W7 :=
            ⟨K + 1, _, _, _, _, _, _, hK1, by omega, rfl, by rfl, (by have := HFF.out; congr 1; omega), HKO2.out, HB7.out, HC7.out⟩
          have HFIN := Lib.hid hfin
          clear hfin
          go_wp2_with fail
          go_roundw
          case rel =>
            first
              | exact HFIN.out
              | (repeat apply Exists.intro
                 refine ⟨HFIN.out, ?_⟩
                 rfl
                 all_goals exact undef)
          case measure => simp [intOf]; omega
end Go.Proofs.YtcioejacijkbcaaGreatDoor.Sg
