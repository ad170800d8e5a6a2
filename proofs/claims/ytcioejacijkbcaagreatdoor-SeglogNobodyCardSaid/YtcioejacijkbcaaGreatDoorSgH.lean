/- segment: Batch. -/
import Derived.Test.YtcioejacijkbcaaGreatDoorSgG
namespace Go.Proofs.YtcioejacijkbcaaGreatDoor.Sg
open Go.RowKit Go.Maps Go.ChangeMaps Go.WideMaps Go.Proofs.YtcioejacijkbcaaGreatDoor.Vd Go.Proofs.YtcioejacijkbcaaGreatDoor.Rc Go.Proofs.YtcioejacijkbcaaGreatDoor.Ba
set_option linter.unusedVariables false
set_option linter.unusedSimpArgs false
set_option maxRecDepth 100000 in
theorem batch_out {w : World} {bs bd : Nat} {name : ByteArray} {base en size n : Nat} {mv : Value} {ms : List (Nat × Nat)} (S : SgAt w bs bd name base en size n mv ms) (o : Int) (h : o < base ∨ (en : Int) ≤ o) :
    Calls Tryz.prog 42 #[.pointer (some ⟨bs, 0, none⟩), .int .i64 o] w fun e w' => e = .returned (.tuple #[.string { data := #[] }, .int .i64 3]) ∧ Below w.heap.size w w' := by
  have HF := Lib.hid (find_out S o h)
  obtain ⟨c0, c1, c2, c3, c4, c5, c6⟩ := cells7 S.cell
  clear S h
  go_enter Tryz.func42, Tryz.ntmps42
  go_wp2_with fail
  refine (given_yes _ bs _ c0).mono ?_
  rintro e w1 ⟨rfl, rfl⟩
  go_wp2_with fail
  refine HF.out.mono ?_
  rintro e w2 ⟨rfl, hb⟩
  have HB := Lib.hid hb
  clear hb c0 c1 c2 c3 c4 c5 c6 HF
  unfold zb
  go_wp2
  go_ret2
  exact ⟨rfl, HB.out.trans ((Below.refl _ _).alloc (Nat.le_refl _) _ |>.mono HB.out.size)⟩
/-- the batch that has an offset -/
def BatchPost (xs : List Bat) (base o : Nat) (e : Ending) : Prop :=
  ∃ (k : Nat) (h : k < xs.length), endOf base (xs.take k) ≤ o ∧ o < endOf base (xs.take k) + xs[k].c ∧ e = .returned (.tuple #[.string (str xs[k].l), .int .i64 0])
set_option maxRecDepth 100000 in
set_option maxHeartbeats 2000000 in
theorem batch_in {w : World} {bs bd bm room base : Nat} {fs : List Fil} {mv : Value} (xs : List Bat) (hC : Chain base xs) (f : Fil) (hf : f ∈ fs) (hfb : f.b = text xs) (D : DiskAt w bd bm room fs)
    (S : SgAt w bs bd f.name base (endOf base xs) (text xs).length xs.length mv (marks xs)) (o : Nat) (h0 : base ≤ o) (h1 : o < endOf base xs) :
    Calls Tryz.prog 42 #[.pointer (some ⟨bs, 0, none⟩), .int .i64 o] w fun e w' => BatchPost xs base o e ∧ Below w.heap.size w w' := by
  have HF := Lib.hid (find_in xs hC f hf hfb D S o h0 h1)
  obtain ⟨c0, c1, c2, c3, c4, c5, c6⟩ := cells7 S.cell
  have HD := Lib.hid D
  have HS := Lib.hid S
  have HFB := Lib.hid hfb
  clear S D hC h0 h1 hfb
  go_enter Tryz.func42, Tryz.ntmps42
  go_wp2_with fail
  refine (given_yes _ bs _ c0).mono ?_
  rintro e w1 ⟨rfl, rfl⟩
  go_wp2_with fail
  refine HF.out.mono ?_
  rintro e w2 ⟨⟨k, hk, hlo, hhi, rfl⟩, hb⟩
  have HB := Lib.hid hb
  have HLO := Lib.hid hlo
  have HHI := Lib.hid hhi
  clear hb c0 c1 c2 c3 c4 c5 c6 HF hlo hhi
  go_upto_region 6 with (fail)
  refine genw ?_
  intro W hW
  have hbW : Below w.heap.size w W := by rw [hW]; exact HB.out.trans ((Below.refl _ _).alloc (Nat.le_refl _) _ |>.mono HB.out.size)
  have HBW := Lib.hid hbW
  clear hW hbW HB
  have HSW := Lib.hid (HS.out.below HBW.out)
  have HBL := Lib.hid (Vd.lt_of_heap HSW.out.cell)
  obtain ⟨c0, c1, c2, c3, c4, c5, c6⟩ := cells7 HSW.out.cell
  have hoff := offs_le xs (k + 1)
  rw [offs_succ xs k hk] at hoff
  have HRD := Lib.hid (show ∀ W1, Below W.heap.size W W1 → Calls Tryz.prog 28 #[.pointer (some ⟨bd, 0, none⟩), .string f.name, .int .i64 (offs xs k), .int .i64 xs[k].l.length] W1 fun e w' => e = .returned (.tuple #[.string (str xs[k].l), .int .i64 0]) ∧ Below W1.heap.size W1 w' from fun W1 hW => by
    have h := read_some (HD.out.below (HBW.out.trans (hW.mono HBW.out.size))) f hf f.name rfl (offs xs k) xs[k].l.length (by rw [HFB.out]; omega)
    rw [HFB.out, text_drop xs k hk, List.take_left' rfl] at h
    exact h)
  clear c2 c3 c4 c5 c6 hoff
  have HR0 := Lib.hid ((Below.refl W.heap.size W).drew)
  refine Rg.wp_region_seqo [0, 1, 2, 3, 4, 5, 6, 7, 8, 9, 10, 11, 12, 13, 14] (S := (fun w' => Below W.heap.size W w' ∧ w'.cell? ⟨bs, 0, none⟩ = some (.pointer (some ⟨bd, 0, none⟩)) ∧ w'.cell? ⟨bs, 1, none⟩ = some (.string f.name))) (by kernel_rfl) (by kernel_rfl) ⟨HR0.out, c0, c1⟩ ?_
  refine Rg.Seqo.light (v := ?_) rfl (by kernel_rfl) ?_ ?_
  rotate_left 1
  focus (intro w hSw; (try dsimp only at hSw); go_simp; try with_reducible rfl)
  try simp only [Act.put, List.setIfInBounds_toArray, List.set_cons_zero, List.set_cons_succ]
  refine Rg.Seqo.light (v := ?_) rfl (by kernel_rfl) ?_ ?_
  rotate_left 1
  focus (intro w hSw; (try dsimp only at hSw); go_simp; try with_reducible rfl)
  try simp only [Act.put, List.setIfInBounds_toArray, List.set_cons_zero, List.set_cons_succ]
  refine Rg.Seqo.light (v := ?_) rfl (by kernel_rfl) ?_ ?_
  rotate_left 1
  focus (intro w hSw; (try dsimp only at hSw); go_simp; try with_reducible rfl)
  try simp only [Act.put, List.setIfInBounds_toArray, List.set_cons_zero, List.set_cons_succ]
  refine Rg.Seqo.light (v := ?_) rfl (by kernel_rfl) ?_ ?_
  rotate_left 1
  focus (intro w hSw; (try dsimp only at hSw); go_simp; try with_reducible rfl)
  try simp only [Act.put, List.setIfInBounds_toArray, List.set_cons_zero, List.set_cons_succ]
  refine Rg.Seqo.light (v := ?_) rfl (by kernel_rfl) ?_ ?_
  rotate_left 1
  focus (intro w hSw; (try dsimp only at hSw); go_simp; try with_reducible rfl)
  try simp only [Act.put, List.setIfInBounds_toArray, List.set_cons_zero, List.set_cons_succ]
  refine Rg.Seqo.light (v := ?_) rfl (by kernel_rfl) ?_ ?_
  rotate_left 1
  focus (intro w hSw; (try dsimp only at hSw); go_simp; try with_reducible rfl)
  try simp only [Act.put, List.setIfInBounds_toArray, List.set_cons_zero, List.set_cons_succ]
  refine Rg.Seqo.light (v := ?_) rfl (by kernel_rfl) ?_ ?_
  rotate_left 1
  focus (intro w hSw; (try dsimp only at hSw); go_simp; try with_reducible rfl)
  try simp only [Act.put, List.setIfInBounds_toArray, List.set_cons_zero, List.set_cons_succ]
  refine Rg.Seqo.light (v := ?_) rfl (by kernel_rfl) ?_ ?_
  rotate_left 1
  focus (intro w hSw; (try dsimp only at hSw); go_simp; try with_reducible rfl)
  try simp only [Act.put, List.setIfInBounds_toArray, List.set_cons_zero, List.set_cons_succ]
  refine Rg.Seqo.light (v := ?_) rfl (by kernel_rfl) ?_ ?_
  rotate_left 1
  focus (intro w hSw; (try dsimp only at hSw); go_simp; try with_reducible rfl)
  try simp only [Act.put, List.setIfInBounds_toArray, List.set_cons_zero, List.set_cons_succ]
  refine Rg.Seqo.light (v := ?_) rfl (by kernel_rfl) ?_ ?_
  rotate_left 1
  focus (intro w hSw; (try dsimp only at hSw); go_simp; try with_reducible rfl)
  try simp only [Act.put, List.setIfInBounds_toArray, List.set_cons_zero, List.set_cons_succ]
  refine Rg.Seqo.call (.tuple #[.string (str xs[k].l), .int .i64 0]) rfl (by kernel_rfl) (by kernel_rfl) (fun w hSw => by (try dsimp only at hSw); go_simp; exact ⟨rfl, rfl⟩) ?_ ?_
  · intro w3 hSw
    refine (HRD.out w3 hSw.1).mono ?_
    rintro e w4 ⟨rfl, hb4⟩
    obtain ⟨d0, d1, d2⟩ := hSw
    exact ⟨rfl, d0.trans (hb4.mono d0.size), (hb4.cell (p := ⟨bs, 0, none⟩) (Nat.lt_of_lt_of_le HBL.out d0.size)).trans d1, (hb4.cell (p := ⟨bs, 1, none⟩) (Nat.lt_of_lt_of_le HBL.out d0.size)).trans d2⟩
  try simp only [Act.put, List.setIfInBounds_toArray, List.set_cons_zero, List.set_cons_succ]
  refine Rg.Seqo.light (v := ?_) rfl (by kernel_rfl) ?_ ?_
  rotate_left 1
  focus (intro w hSw; (try dsimp only at hSw); go_simp; try with_reducible rfl)
  try simp only [Act.put, List.setIfInBounds_toArray, List.set_cons_zero, List.set_cons_succ]
  refine Rg.Seqo.light (v := ?_) rfl (by kernel_rfl) ?_ ?_
  rotate_left 1
  focus (intro w hSw; (try dsimp only at hSw); go_simp; try with_reducible rfl)
  try simp only [Act.put, List.setIfInBounds_toArray, List.set_cons_zero, List.set_cons_succ]
  refine Rg.Seqo.light (v := ?_) rfl (by kernel_rfl) ?_ ?_
  rotate_left 1
  focus (intro w hSw; (try dsimp only at hSw); go_simp; try with_reducible rfl)
  try simp only [Act.put, List.setIfInBounds_toArray, List.set_cons_zero, List.set_cons_succ]
  refine Rg.Seqo.light (v := ?_) rfl (by kernel_rfl) ?_ ?_
  rotate_left 1
  focus (intro w hSw; (try dsimp only at hSw); go_simp; try with_reducible rfl)
  try simp only [Act.put, List.setIfInBounds_toArray, List.set_cons_zero, List.set_cons_succ]
  refine Rg.Seqo.nil fun w5 hS5 => ?_
  obtain ⟨hb5, -, -⟩ := hS5
  have HB5 := Lib.hid (HBW.out.trans (hb5.mono HBW.out.size))
  clear hb5 c0 c1 HRD HBL HR0
  go_wp2
  go_ret2
  exact ⟨⟨k, hk, HLO.out, HHI.out, rfl⟩, HB5.out⟩
end Go.Proofs.YtcioejacijkbcaaGreatDoor.Sg
