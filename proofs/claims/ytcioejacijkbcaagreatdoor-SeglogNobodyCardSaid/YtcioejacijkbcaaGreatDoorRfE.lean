/- The references' May of batches, and a batch's bytes by no codec. -/
import Derived.Test.YtcioejacijkbcaaGreatDoorRfD
namespace Go.Proofs.YtcioejacijkbcaaGreatDoor.Rf
open Go.RowKit Go.Maps Go.ChangeMaps Go.WideMaps Go.Proofs.YtcioejacijkbcaaGreatDoor.Su Go.Proofs.YtcioejacijkbcaaGreatDoor.Bt Go.Proofs.YtcioejacijkbcaaGreatDoor.Rc Go.Proofs.YtcioejacijkbcaaGreatDoor.Ba Go.Proofs.YtcioejacijkbcaaGreatDoor.Rg
set_option linter.unusedVariables false
set_option maxRecDepth 100000 in
set_option maxHeartbeats 4000000 in
theorem rmayb (base count view producer seq : Int) (ap : Option Addr) (cap : Nat) (rs : List Rec) (w : World) (h : RecsAt w ap rs) (hn : rs.length ≤ 1048576) :
    Calls Tryz.prog 51 #[.agg #[.int .i64 base, .int .i64 count, .int .i64 view, .int .i64 producer, .int .i64 seq, .slice ap rs.length cap]] w fun e w' => e = .returned (.bool (mayB base count view producer seq rs)) ∧ Below w.heap.size w w' := by
  obtain ⟨V, hV⟩ : ∃ V, V = mayB base count view producer seq rs := ⟨_, rfl⟩
  rw [← hV]
  have H := Lib.hid h
  clear h
  have hw0 := (Below.refl w.heap.size w).alloc (Nat.le_refl _) (.cells #[.int .i64 base, .int .i64 count, .int .i64 view, .int .i64 producer, .int .i64 seq, .slice ap rs.length cap] 59)
  have HW := Lib.hid hw0
  have HR1 := Lib.hid (H.out.below hw0)
  have HBX := Lib.hid (heap_alloc_last w (.cells #[.int .i64 base, .int .i64 count, .int .i64 view, .int .i64 producer, .int .i64 seq, .slice ap rs.length cap] 59))
  clear hw0
  have HVV := Lib.hid hV
  clear hV
  go_enter Tryz.func51, Tryz.ntmps51
  cases hh : headed base count view producer seq with
  | false =>
    have HV := Lib.hid (show V = false from by rw [HVV.out]; unfold mayB; rw [hh, Bool.false_and])
    have HH := Lib.hid hh
    clear hh
    go_upto_region 2 with (fail)
    refine wp_region_seqo [0, 1, 2, 3, 4, 5, 6, 7, 8, 9, 10, 11, 12, 13, 14, 15, 16, 17, 18, 19, 20, 21, 22, 23, 24, 25, 26, 27, 28, 29, 30, 31, 32] (S := (fun w' => w'.heap[w.heap.size]? = some (.cells #[.int .i64 base, .int .i64 count, .int .i64 view, .int .i64 producer, .int .i64 seq, .slice ap rs.length cap] 59 (0, 0)) ∧ (w'.cell? ⟨w.heap.size, 0, none⟩ = some (.int .i64 base) ∧ w'.cell? ⟨w.heap.size, 1, none⟩ = some (.int .i64 count) ∧ w'.cell? ⟨w.heap.size, 2, none⟩ = some (.int .i64 view) ∧ w'.cell? ⟨w.heap.size, 3, none⟩ = some (.int .i64 producer) ∧ w'.cell? ⟨w.heap.size, 4, none⟩ = some (.int .i64 seq) ∧ w'.cell? ⟨w.heap.size, 5, none⟩ = some (.slice ap rs.length cap)) ∧ RecsAt w' (ap) rs ∧ Below w.heap.size w w')) (by kernel_rfl) (by kernel_rfl) ⟨HBX.out, cells6 HBX.out, HR1.out, HW.out.drew⟩ ?_
    refine Seqo.light (v := ?_) rfl (by kernel_rfl) ?_ ?_
    rotate_left 1
    focus (intro w hSw; (try dsimp only at hSw); go_simp; try with_reducible rfl)
    try simp only [Act.put, List.setIfInBounds_toArray, List.set_cons_zero, List.set_cons_succ]
    refine Seqo.call (.bool false) rfl (by kernel_rfl) (by kernel_rfl) (fun w hSw => by (try dsimp only at hSw); go_simp; exact ⟨rfl, rfl⟩) ?_ ?_
    · intro w3 hSw
      refine (rheaded base count view producer seq _ rs.length cap w3).mono ?_
      rintro e w4 ⟨rfl, hb4⟩
      obtain ⟨d0, _, d1, d2⟩ := hSw
      have e0 := (hb4.block _ (lt_of_heap d0)).trans d0
      have e1 := d1.below hb4
      exact ⟨by rw [HH.out], e0, cells6 e0, e1, d2.trans (hb4.mono d2.size)⟩
    try simp only [Act.put, List.setIfInBounds_toArray, List.set_cons_zero, List.set_cons_succ]
    refine Seqo.light (v := ?_) rfl (by kernel_rfl) ?_ ?_
    rotate_left 1
    focus (intro w hSw; (try dsimp only at hSw); go_simp; try with_reducible rfl)
    try simp only [Act.put, List.setIfInBounds_toArray, List.set_cons_zero, List.set_cons_succ]
    refine Seqo.skip rfl (by kernel_rfl) ?_
    try simp only [Act.put, List.setIfInBounds_toArray, List.set_cons_zero, List.set_cons_succ]
    refine Seqo.skip rfl (by kernel_rfl) ?_
    try simp only [Act.put, List.setIfInBounds_toArray, List.set_cons_zero, List.set_cons_succ]
    refine Seqo.light (v := ?_) rfl (by kernel_rfl) ?_ ?_
    rotate_left 1
    focus (intro w hSw; (try dsimp only at hSw); go_simp; try with_reducible rfl)
    try simp only [Act.put, List.setIfInBounds_toArray, List.set_cons_zero, List.set_cons_succ]
    refine Seqo.light (v := ?_) rfl (by kernel_rfl) ?_ ?_
    rotate_left 1
    focus (intro w hSw; (try dsimp only at hSw); go_simp; try with_reducible rfl)
    try simp only [Act.put, List.setIfInBounds_toArray, List.set_cons_zero, List.set_cons_succ]
    refine Seqo.skip rfl (by kernel_rfl) ?_
    try simp only [Act.put, List.setIfInBounds_toArray, List.set_cons_zero, List.set_cons_succ]
    refine Seqo.skip rfl (by kernel_rfl) ?_
    try simp only [Act.put, List.setIfInBounds_toArray, List.set_cons_zero, List.set_cons_succ]
    refine Seqo.skip rfl (by kernel_rfl) ?_
    try simp only [Act.put, List.setIfInBounds_toArray, List.set_cons_zero, List.set_cons_succ]
    refine Seqo.skip rfl (by kernel_rfl) ?_
    try simp only [Act.put, List.setIfInBounds_toArray, List.set_cons_zero, List.set_cons_succ]
    refine Seqo.skip rfl (by kernel_rfl) ?_
    try simp only [Act.put, List.setIfInBounds_toArray, List.set_cons_zero, List.set_cons_succ]
    refine Seqo.light (v := ?_) rfl (by kernel_rfl) ?_ ?_
    rotate_left 1
    focus (intro w hSw; (try dsimp only at hSw); go_simp; try with_reducible rfl)
    try simp only [Act.put, List.setIfInBounds_toArray, List.set_cons_zero, List.set_cons_succ]
    refine Seqo.light (v := ?_) rfl (by kernel_rfl) ?_ ?_
    rotate_left 1
    focus (intro w hSw; (try dsimp only at hSw); go_simp; try with_reducible rfl)
    try simp only [Act.put, List.setIfInBounds_toArray, List.set_cons_zero, List.set_cons_succ]
    refine Seqo.skip rfl (by kernel_rfl) ?_
    try simp only [Act.put, List.setIfInBounds_toArray, List.set_cons_zero, List.set_cons_succ]
    refine Seqo.skip rfl (by kernel_rfl) ?_
    try simp only [Act.put, List.setIfInBounds_toArray, List.set_cons_zero, List.set_cons_succ]
    refine Seqo.skip rfl (by kernel_rfl) ?_
    try simp only [Act.put, List.setIfInBounds_toArray, List.set_cons_zero, List.set_cons_succ]
    refine Seqo.skip rfl (by kernel_rfl) ?_
    try simp only [Act.put, List.setIfInBounds_toArray, List.set_cons_zero, List.set_cons_succ]
    refine Seqo.skip rfl (by kernel_rfl) ?_
    try simp only [Act.put, List.setIfInBounds_toArray, List.set_cons_zero, List.set_cons_succ]
    refine Seqo.skip rfl (by kernel_rfl) ?_
    try simp only [Act.put, List.setIfInBounds_toArray, List.set_cons_zero, List.set_cons_succ]
    refine Seqo.skip rfl (by kernel_rfl) ?_
    try simp only [Act.put, List.setIfInBounds_toArray, List.set_cons_zero, List.set_cons_succ]
    refine Seqo.skip rfl (by kernel_rfl) ?_
    try simp only [Act.put, List.setIfInBounds_toArray, List.set_cons_zero, List.set_cons_succ]
    refine Seqo.skip rfl (by kernel_rfl) ?_
    try simp only [Act.put, List.setIfInBounds_toArray, List.set_cons_zero, List.set_cons_succ]
    refine Seqo.skip rfl (by kernel_rfl) ?_
    try simp only [Act.put, List.setIfInBounds_toArray, List.set_cons_zero, List.set_cons_succ]
    refine Seqo.skip rfl (by kernel_rfl) ?_
    try simp only [Act.put, List.setIfInBounds_toArray, List.set_cons_zero, List.set_cons_succ]
    refine Seqo.skip rfl (by kernel_rfl) ?_
    try simp only [Act.put, List.setIfInBounds_toArray, List.set_cons_zero, List.set_cons_succ]
    refine Seqo.skip rfl (by kernel_rfl) ?_
    try simp only [Act.put, List.setIfInBounds_toArray, List.set_cons_zero, List.set_cons_succ]
    refine Seqo.skip rfl (by kernel_rfl) ?_
    try simp only [Act.put, List.setIfInBounds_toArray, List.set_cons_zero, List.set_cons_succ]
    refine Seqo.skip rfl (by kernel_rfl) ?_
    try simp only [Act.put, List.setIfInBounds_toArray, List.set_cons_zero, List.set_cons_succ]
    refine Seqo.skip rfl (by kernel_rfl) ?_
    try simp only [Act.put, List.setIfInBounds_toArray, List.set_cons_zero, List.set_cons_succ]
    refine Seqo.skip rfl (by kernel_rfl) ?_
    try simp only [Act.put, List.setIfInBounds_toArray, List.set_cons_zero, List.set_cons_succ]
    refine Seqo.light (v := ?_) rfl (by kernel_rfl) ?_ ?_
    rotate_left 1
    focus (intro w hSw; (try dsimp only at hSw); go_simp; try with_reducible rfl)
    try simp only [Act.put, List.setIfInBounds_toArray, List.set_cons_zero, List.set_cons_succ]
    refine Seqo.light (v := ?_) rfl (by kernel_rfl) ?_ ?_
    rotate_left 1
    focus (intro w hSw; (try dsimp only at hSw); go_simp; try with_reducible rfl)
    try simp only [Act.put, List.setIfInBounds_toArray, List.set_cons_zero, List.set_cons_succ]
    refine Seqo.nil fun w5 hS5 => ?_
    have HB5 := Lib.hid hS5.2.2.2
    clear hS5
    go_wp2
    go_ret
    exact ⟨by rw [HV.out]; rfl, HB5.out⟩
  | true =>
    have HH := Lib.hid hh
    clear hh
    by_cases h256 : 256 < rs.length
    · have h256' : ¬ (rs.length : Int) ≤ 256 := by omega
      have HV := Lib.hid (show V = false from by
        rw [HVV.out]
        cases hm : mayB base count view producer seq rs with
        | false => rfl
        | true => have := (may_parts hm).2.2; omega)
      clear h256
      go_upto_region 2 with (fail)
      refine wp_region_seqo [0, 1, 2, 3, 4, 5, 6, 7, 8, 9, 10, 11, 12, 13, 14, 15, 16, 17, 18, 19, 20, 21, 22, 23, 24, 25, 26, 27, 28, 29, 30, 31, 32] (S := (fun w' => w'.heap[w.heap.size]? = some (.cells #[.int .i64 base, .int .i64 count, .int .i64 view, .int .i64 producer, .int .i64 seq, .slice ap rs.length cap] 59 (0, 0)) ∧ (w'.cell? ⟨w.heap.size, 0, none⟩ = some (.int .i64 base) ∧ w'.cell? ⟨w.heap.size, 1, none⟩ = some (.int .i64 count) ∧ w'.cell? ⟨w.heap.size, 2, none⟩ = some (.int .i64 view) ∧ w'.cell? ⟨w.heap.size, 3, none⟩ = some (.int .i64 producer) ∧ w'.cell? ⟨w.heap.size, 4, none⟩ = some (.int .i64 seq) ∧ w'.cell? ⟨w.heap.size, 5, none⟩ = some (.slice ap rs.length cap)) ∧ RecsAt w' (ap) rs ∧ Below w.heap.size w w')) (by kernel_rfl) (by kernel_rfl) ⟨HBX.out, cells6 HBX.out, HR1.out, HW.out.drew⟩ ?_
      refine Seqo.light (v := ?_) rfl (by kernel_rfl) ?_ ?_
      rotate_left 1
      focus (intro w hSw; (try dsimp only at hSw); go_simp; try with_reducible rfl)
      try simp only [Act.put, List.setIfInBounds_toArray, List.set_cons_zero, List.set_cons_succ]
      refine Seqo.call (.bool true) rfl (by kernel_rfl) (by kernel_rfl) (fun w hSw => by (try dsimp only at hSw); go_simp; exact ⟨rfl, rfl⟩) ?_ ?_
      · intro w3 hSw
        refine (rheaded base count view producer seq _ rs.length cap w3).mono ?_
        rintro e w4 ⟨rfl, hb4⟩
        obtain ⟨d0, _, d1, d2⟩ := hSw
        have e0 := (hb4.block _ (lt_of_heap d0)).trans d0
        have e1 := d1.below hb4
        exact ⟨by rw [HH.out], e0, cells6 e0, e1, d2.trans (hb4.mono d2.size)⟩
      try simp only [Act.put, List.setIfInBounds_toArray, List.set_cons_zero, List.set_cons_succ]
      refine Seqo.light (v := ?_) rfl (by kernel_rfl) ?_ ?_
      rotate_left 1
      focus (intro w hSw; (try dsimp only at hSw); go_simp; try with_reducible rfl)
      try simp only [Act.put, List.setIfInBounds_toArray, List.set_cons_zero, List.set_cons_succ]
      refine Seqo.light (v := ?_) rfl (by kernel_rfl) ?_ ?_
      rotate_left 1
      focus (intro w hSw; (try dsimp only at hSw); go_simp; try with_reducible rfl)
      try simp only [Act.put, List.setIfInBounds_toArray, List.set_cons_zero, List.set_cons_succ]
      refine Seqo.light (v := ?_) rfl (by kernel_rfl) ?_ ?_
      rotate_left 1
      focus (intro w hSw; (try dsimp only at hSw); go_simp; try with_reducible rfl)
      try simp only [Act.put, List.setIfInBounds_toArray, List.set_cons_zero, List.set_cons_succ]
      refine Seqo.light (v := ?_) rfl (by kernel_rfl) ?_ ?_
      rotate_left 1
      focus (intro w hSw; (try dsimp only at hSw); go_simp; try with_reducible rfl)
      try simp only [Act.put, List.setIfInBounds_toArray, List.set_cons_zero, List.set_cons_succ]
      refine Seqo.light (v := ?_) rfl (by kernel_rfl) ?_ ?_
      rotate_left 1
      focus (intro w hSw; (try dsimp only at hSw); go_simp; try with_reducible rfl)
      try simp only [Act.put, List.setIfInBounds_toArray, List.set_cons_zero, List.set_cons_succ]
      refine Seqo.skip rfl (by kernel_rfl) ?_
      try simp only [Act.put, List.setIfInBounds_toArray, List.set_cons_zero, List.set_cons_succ]
      refine Seqo.skip rfl (by kernel_rfl) ?_
      try simp only [Act.put, List.setIfInBounds_toArray, List.set_cons_zero, List.set_cons_succ]
      refine Seqo.skip rfl (by kernel_rfl) ?_
      try simp only [Act.put, List.setIfInBounds_toArray, List.set_cons_zero, List.set_cons_succ]
      refine Seqo.skip rfl (by kernel_rfl) ?_
      try simp only [Act.put, List.setIfInBounds_toArray, List.set_cons_zero, List.set_cons_succ]
      refine Seqo.skip rfl (by kernel_rfl) ?_
      try simp only [Act.put, List.setIfInBounds_toArray, List.set_cons_zero, List.set_cons_succ]
      refine Seqo.light (v := ?_) rfl (by kernel_rfl) ?_ ?_
      rotate_left 1
      focus (intro w hSw; (try dsimp only at hSw); go_simp; try with_reducible rfl)
      try simp only [Act.put, List.setIfInBounds_toArray, List.set_cons_zero, List.set_cons_succ]
      refine Seqo.light (v := ?_) rfl (by kernel_rfl) ?_ ?_
      rotate_left 1
      focus (intro w hSw; (try dsimp only at hSw); go_simp; try with_reducible rfl)
      try simp only [Act.put, List.setIfInBounds_toArray, List.set_cons_zero, List.set_cons_succ]
      refine Seqo.skip rfl (by kernel_rfl) ?_
      try simp only [Act.put, List.setIfInBounds_toArray, List.set_cons_zero, List.set_cons_succ]
      refine Seqo.skip rfl (by kernel_rfl) ?_
      try simp only [Act.put, List.setIfInBounds_toArray, List.set_cons_zero, List.set_cons_succ]
      refine Seqo.skip rfl (by kernel_rfl) ?_
      try simp only [Act.put, List.setIfInBounds_toArray, List.set_cons_zero, List.set_cons_succ]
      refine Seqo.skip rfl (by kernel_rfl) ?_
      try simp only [Act.put, List.setIfInBounds_toArray, List.set_cons_zero, List.set_cons_succ]
      refine Seqo.skip rfl (by kernel_rfl) ?_
      try simp only [Act.put, List.setIfInBounds_toArray, List.set_cons_zero, List.set_cons_succ]
      refine Seqo.skip rfl (by kernel_rfl) ?_
      try simp only [Act.put, List.setIfInBounds_toArray, List.set_cons_zero, List.set_cons_succ]
      refine Seqo.skip rfl (by kernel_rfl) ?_
      try simp only [Act.put, List.setIfInBounds_toArray, List.set_cons_zero, List.set_cons_succ]
      refine Seqo.skip rfl (by kernel_rfl) ?_
      try simp only [Act.put, List.setIfInBounds_toArray, List.set_cons_zero, List.set_cons_succ]
      refine Seqo.skip rfl (by kernel_rfl) ?_
      try simp only [Act.put, List.setIfInBounds_toArray, List.set_cons_zero, List.set_cons_succ]
      refine Seqo.skip rfl (by kernel_rfl) ?_
      try simp only [Act.put, List.setIfInBounds_toArray, List.set_cons_zero, List.set_cons_succ]
      refine Seqo.skip rfl (by kernel_rfl) ?_
      try simp only [Act.put, List.setIfInBounds_toArray, List.set_cons_zero, List.set_cons_succ]
      refine Seqo.skip rfl (by kernel_rfl) ?_
      try simp only [Act.put, List.setIfInBounds_toArray, List.set_cons_zero, List.set_cons_succ]
      refine Seqo.skip rfl (by kernel_rfl) ?_
      try simp only [Act.put, List.setIfInBounds_toArray, List.set_cons_zero, List.set_cons_succ]
      refine Seqo.skip rfl (by kernel_rfl) ?_
      try simp only [Act.put, List.setIfInBounds_toArray, List.set_cons_zero, List.set_cons_succ]
      refine Seqo.skip rfl (by kernel_rfl) ?_
      try simp only [Act.put, List.setIfInBounds_toArray, List.set_cons_zero, List.set_cons_succ]
      refine Seqo.skip rfl (by kernel_rfl) ?_
      try simp only [Act.put, List.setIfInBounds_toArray, List.set_cons_zero, List.set_cons_succ]
      refine Seqo.skip rfl (by kernel_rfl) ?_
      try simp only [Act.put, List.setIfInBounds_toArray, List.set_cons_zero, List.set_cons_succ]
      refine Seqo.light (v := ?_) rfl (by kernel_rfl) ?_ ?_
      rotate_left 1
      focus (intro w hSw; (try dsimp only at hSw); go_simp; try with_reducible rfl)
      try simp only [Act.put, List.setIfInBounds_toArray, List.set_cons_zero, List.set_cons_succ]
      refine Seqo.light (v := ?_) rfl (by kernel_rfl) ?_ ?_
      rotate_left 1
      focus (intro w hSw; (try dsimp only at hSw); go_simp; try with_reducible rfl)
      try simp only [Act.put, List.setIfInBounds_toArray, List.set_cons_zero, List.set_cons_succ]
      refine Seqo.nil fun w5 hS5 => ?_
      have HB5 := Lib.hid hS5.2.2.2
      clear hS5
      go_wp2
      go_ret
      exact ⟨by rw [HV.out]; rfl, HB5.out⟩
    · have h256' : (rs.length : Int) ≤ 256 := by omega
      clear h256
      cases hok : okRecs base rs with
      | false =>
        have HV := Lib.hid (show V = false from by rw [HVV.out]; unfold mayB; rw [hok, Bool.false_and, Bool.and_false])
        have HOK := Lib.hid hok
        clear hok
        go_upto_region 2 with (fail)
        refine wp_region_seqo [0, 1, 2, 3, 4, 5, 6, 7, 8, 9, 10, 11, 12, 13, 14, 15, 16, 17, 18, 19, 20, 21, 22, 23, 24, 25, 26, 27, 28, 29, 30, 31, 32] (S := (fun w' => w'.heap[w.heap.size]? = some (.cells #[.int .i64 base, .int .i64 count, .int .i64 view, .int .i64 producer, .int .i64 seq, .slice ap rs.length cap] 59 (0, 0)) ∧ (w'.cell? ⟨w.heap.size, 0, none⟩ = some (.int .i64 base) ∧ w'.cell? ⟨w.heap.size, 1, none⟩ = some (.int .i64 count) ∧ w'.cell? ⟨w.heap.size, 2, none⟩ = some (.int .i64 view) ∧ w'.cell? ⟨w.heap.size, 3, none⟩ = some (.int .i64 producer) ∧ w'.cell? ⟨w.heap.size, 4, none⟩ = some (.int .i64 seq) ∧ w'.cell? ⟨w.heap.size, 5, none⟩ = some (.slice ap rs.length cap)) ∧ RecsAt w' (ap) rs ∧ Below w.heap.size w w')) (by kernel_rfl) (by kernel_rfl) ⟨HBX.out, cells6 HBX.out, HR1.out, HW.out.drew⟩ ?_
        refine Seqo.light (v := ?_) rfl (by kernel_rfl) ?_ ?_
        rotate_left 1
        focus (intro w hSw; (try dsimp only at hSw); go_simp; try with_reducible rfl)
        try simp only [Act.put, List.setIfInBounds_toArray, List.set_cons_zero, List.set_cons_succ]
        refine Seqo.call (.bool true) rfl (by kernel_rfl) (by kernel_rfl) (fun w hSw => by (try dsimp only at hSw); go_simp; exact ⟨rfl, rfl⟩) ?_ ?_
        · intro w3 hSw
          refine (rheaded base count view producer seq _ rs.length cap w3).mono ?_
          rintro e w4 ⟨rfl, hb4⟩
          obtain ⟨d0, _, d1, d2⟩ := hSw
          have e0 := (hb4.block _ (lt_of_heap d0)).trans d0
          have e1 := d1.below hb4
          exact ⟨by rw [HH.out], e0, cells6 e0, e1, d2.trans (hb4.mono d2.size)⟩
        try simp only [Act.put, List.setIfInBounds_toArray, List.set_cons_zero, List.set_cons_succ]
        refine Seqo.light (v := ?_) rfl (by kernel_rfl) ?_ ?_
        rotate_left 1
        focus (intro w hSw; (try dsimp only at hSw); go_simp; try with_reducible rfl)
        try simp only [Act.put, List.setIfInBounds_toArray, List.set_cons_zero, List.set_cons_succ]
        refine Seqo.light (v := ?_) rfl (by kernel_rfl) ?_ ?_
        rotate_left 1
        focus (intro w hSw; (try dsimp only at hSw); go_simp; try with_reducible rfl)
        try simp only [Act.put, List.setIfInBounds_toArray, List.set_cons_zero, List.set_cons_succ]
        refine Seqo.light (v := ?_) rfl (by kernel_rfl) ?_ ?_
        rotate_left 1
        focus (intro w hSw; (try dsimp only at hSw); go_simp; try with_reducible rfl)
        try simp only [Act.put, List.setIfInBounds_toArray, List.set_cons_zero, List.set_cons_succ]
        refine Seqo.light (v := ?_) rfl (by kernel_rfl) ?_ ?_
        rotate_left 1
        focus (intro w hSw; (try dsimp only at hSw); go_simp; try with_reducible rfl)
        try simp only [Act.put, List.setIfInBounds_toArray, List.set_cons_zero, List.set_cons_succ]
        refine Seqo.light (v := ?_) rfl (by kernel_rfl) ?_ ?_
        rotate_left 1
        focus (intro w hSw; (try dsimp only at hSw); go_simp; try with_reducible rfl)
        try simp only [Act.put, List.setIfInBounds_toArray, List.set_cons_zero, List.set_cons_succ]
        refine Seqo.light (v := ?_) rfl (by kernel_rfl) ?_ ?_
        rotate_left 1
        focus (intro w hSw; (try dsimp only at hSw); go_simp; try with_reducible rfl)
        try simp only [Act.put, List.setIfInBounds_toArray, List.set_cons_zero, List.set_cons_succ]
        refine Seqo.light (v := ?_) rfl (by kernel_rfl) ?_ ?_
        rotate_left 1
        focus (intro w hSw; (try dsimp only at hSw); go_simp; try with_reducible rfl)
        try simp only [Act.put, List.setIfInBounds_toArray, List.set_cons_zero, List.set_cons_succ]
        refine Seqo.light (v := ?_) rfl (by kernel_rfl) ?_ ?_
        rotate_left 1
        focus (intro w hSw; (try dsimp only at hSw); go_simp; try with_reducible rfl)
        try simp only [Act.put, List.setIfInBounds_toArray, List.set_cons_zero, List.set_cons_succ]
        refine Seqo.light (v := ?_) rfl (by kernel_rfl) ?_ ?_
        rotate_left 1
        focus (intro w hSw; (try dsimp only at hSw); go_simp; try with_reducible rfl)
        try simp only [Act.put, List.setIfInBounds_toArray, List.set_cons_zero, List.set_cons_succ]
        refine Seqo.call (.bool false) rfl (by kernel_rfl) (by kernel_rfl) (fun w hSw => by (try dsimp only at hSw); go_simp; exact ⟨rfl, rfl⟩) ?_ ?_
        · intro w3 hSw
          refine (rrise rs base _ cap w3 hSw.2.2.1 hn).mono ?_
          rintro e w4 ⟨rfl, hb4⟩
          obtain ⟨d0, _, d1, d2⟩ := hSw
          have e0 := (hb4.block _ (lt_of_heap d0)).trans d0
          have e1 := d1.below hb4
          exact ⟨by rw [HOK.out], e0, cells6 e0, e1, d2.trans (hb4.mono d2.size)⟩
        try simp only [Act.put, List.setIfInBounds_toArray, List.set_cons_zero, List.set_cons_succ]
        refine Seqo.light (v := ?_) rfl (by kernel_rfl) ?_ ?_
        rotate_left 1
        focus (intro w hSw; (try dsimp only at hSw); go_simp; try with_reducible rfl)
        try simp only [Act.put, List.setIfInBounds_toArray, List.set_cons_zero, List.set_cons_succ]
        refine Seqo.light (v := ?_) rfl (by kernel_rfl) ?_ ?_
        rotate_left 1
        focus (intro w hSw; (try dsimp only at hSw); go_simp; try with_reducible rfl)
        try simp only [Act.put, List.setIfInBounds_toArray, List.set_cons_zero, List.set_cons_succ]
        refine Seqo.skip rfl (by kernel_rfl) ?_
        try simp only [Act.put, List.setIfInBounds_toArray, List.set_cons_zero, List.set_cons_succ]
        refine Seqo.skip rfl (by kernel_rfl) ?_
        try simp only [Act.put, List.setIfInBounds_toArray, List.set_cons_zero, List.set_cons_succ]
        refine Seqo.skip rfl (by kernel_rfl) ?_
        try simp only [Act.put, List.setIfInBounds_toArray, List.set_cons_zero, List.set_cons_succ]
        refine Seqo.skip rfl (by kernel_rfl) ?_
        try simp only [Act.put, List.setIfInBounds_toArray, List.set_cons_zero, List.set_cons_succ]
        refine Seqo.skip rfl (by kernel_rfl) ?_
        try simp only [Act.put, List.setIfInBounds_toArray, List.set_cons_zero, List.set_cons_succ]
        refine Seqo.skip rfl (by kernel_rfl) ?_
        try simp only [Act.put, List.setIfInBounds_toArray, List.set_cons_zero, List.set_cons_succ]
        refine Seqo.skip rfl (by kernel_rfl) ?_
        try simp only [Act.put, List.setIfInBounds_toArray, List.set_cons_zero, List.set_cons_succ]
        refine Seqo.skip rfl (by kernel_rfl) ?_
        try simp only [Act.put, List.setIfInBounds_toArray, List.set_cons_zero, List.set_cons_succ]
        refine Seqo.skip rfl (by kernel_rfl) ?_
        try simp only [Act.put, List.setIfInBounds_toArray, List.set_cons_zero, List.set_cons_succ]
        refine Seqo.skip rfl (by kernel_rfl) ?_
        try simp only [Act.put, List.setIfInBounds_toArray, List.set_cons_zero, List.set_cons_succ]
        refine Seqo.skip rfl (by kernel_rfl) ?_
        try simp only [Act.put, List.setIfInBounds_toArray, List.set_cons_zero, List.set_cons_succ]
        refine Seqo.skip rfl (by kernel_rfl) ?_
        try simp only [Act.put, List.setIfInBounds_toArray, List.set_cons_zero, List.set_cons_succ]
        refine Seqo.skip rfl (by kernel_rfl) ?_
        try simp only [Act.put, List.setIfInBounds_toArray, List.set_cons_zero, List.set_cons_succ]
        refine Seqo.skip rfl (by kernel_rfl) ?_
        try simp only [Act.put, List.setIfInBounds_toArray, List.set_cons_zero, List.set_cons_succ]
        refine Seqo.skip rfl (by kernel_rfl) ?_
        try simp only [Act.put, List.setIfInBounds_toArray, List.set_cons_zero, List.set_cons_succ]
        refine Seqo.skip rfl (by kernel_rfl) ?_
        try simp only [Act.put, List.setIfInBounds_toArray, List.set_cons_zero, List.set_cons_succ]
        refine Seqo.skip rfl (by kernel_rfl) ?_
        try simp only [Act.put, List.setIfInBounds_toArray, List.set_cons_zero, List.set_cons_succ]
        refine Seqo.light (v := ?_) rfl (by kernel_rfl) ?_ ?_
        rotate_left 1
        focus (intro w hSw; (try dsimp only at hSw); go_simp; try with_reducible rfl)
        try simp only [Act.put, List.setIfInBounds_toArray, List.set_cons_zero, List.set_cons_succ]
        refine Seqo.light (v := ?_) rfl (by kernel_rfl) ?_ ?_
        rotate_left 1
        focus (intro w hSw; (try dsimp only at hSw); go_simp; try with_reducible rfl)
        try simp only [Act.put, List.setIfInBounds_toArray, List.set_cons_zero, List.set_cons_succ]
        refine Seqo.nil fun w5 hS5 => ?_
        have HB5 := Lib.hid hS5.2.2.2
        clear hS5
        go_wp2
        go_ret
        exact ⟨by rw [HV.out]; rfl, HB5.out⟩
      | true =>
        have HOK := Lib.hid hok
        clear hok
        by_cases hz : rs.length = 0
        · have hz' : ((rs.length : Int) == 0) = true := by rw [hz]; rfl
          have HV := Lib.hid (show V = true from by rw [HVV.out]; unfold mayB; rw [HH.out, HOK.out, hz]; rfl)
          clear hz
          go_upto_region 2 with (fail)
          refine wp_region_seqo [0, 1, 2, 3, 4, 5, 6, 7, 8, 9, 10, 11, 12, 13, 14, 15, 16, 17, 18, 19, 20, 21, 22, 23, 24, 25, 26, 27, 28, 29, 30, 31, 32] (S := (fun w' => w'.heap[w.heap.size]? = some (.cells #[.int .i64 base, .int .i64 count, .int .i64 view, .int .i64 producer, .int .i64 seq, .slice ap rs.length cap] 59 (0, 0)) ∧ (w'.cell? ⟨w.heap.size, 0, none⟩ = some (.int .i64 base) ∧ w'.cell? ⟨w.heap.size, 1, none⟩ = some (.int .i64 count) ∧ w'.cell? ⟨w.heap.size, 2, none⟩ = some (.int .i64 view) ∧ w'.cell? ⟨w.heap.size, 3, none⟩ = some (.int .i64 producer) ∧ w'.cell? ⟨w.heap.size, 4, none⟩ = some (.int .i64 seq) ∧ w'.cell? ⟨w.heap.size, 5, none⟩ = some (.slice ap rs.length cap)) ∧ RecsAt w' (ap) rs ∧ Below w.heap.size w w')) (by kernel_rfl) (by kernel_rfl) ⟨HBX.out, cells6 HBX.out, HR1.out, HW.out.drew⟩ ?_
          refine Seqo.light (v := ?_) rfl (by kernel_rfl) ?_ ?_
          rotate_left 1
          focus (intro w hSw; (try dsimp only at hSw); go_simp; try with_reducible rfl)
          try simp only [Act.put, List.setIfInBounds_toArray, List.set_cons_zero, List.set_cons_succ]
          refine Seqo.call (.bool true) rfl (by kernel_rfl) (by kernel_rfl) (fun w hSw => by (try dsimp only at hSw); go_simp; exact ⟨rfl, rfl⟩) ?_ ?_
          · intro w3 hSw
            refine (rheaded base count view producer seq _ rs.length cap w3).mono ?_
            rintro e w4 ⟨rfl, hb4⟩
            obtain ⟨d0, _, d1, d2⟩ := hSw
            have e0 := (hb4.block _ (lt_of_heap d0)).trans d0
            have e1 := d1.below hb4
            exact ⟨by rw [HH.out], e0, cells6 e0, e1, d2.trans (hb4.mono d2.size)⟩
          try simp only [Act.put, List.setIfInBounds_toArray, List.set_cons_zero, List.set_cons_succ]
          refine Seqo.light (v := ?_) rfl (by kernel_rfl) ?_ ?_
          rotate_left 1
          focus (intro w hSw; (try dsimp only at hSw); go_simp; try with_reducible rfl)
          try simp only [Act.put, List.setIfInBounds_toArray, List.set_cons_zero, List.set_cons_succ]
          refine Seqo.light (v := ?_) rfl (by kernel_rfl) ?_ ?_
          rotate_left 1
          focus (intro w hSw; (try dsimp only at hSw); go_simp; try with_reducible rfl)
          try simp only [Act.put, List.setIfInBounds_toArray, List.set_cons_zero, List.set_cons_succ]
          refine Seqo.light (v := ?_) rfl (by kernel_rfl) ?_ ?_
          rotate_left 1
          focus (intro w hSw; (try dsimp only at hSw); go_simp; try with_reducible rfl)
          try simp only [Act.put, List.setIfInBounds_toArray, List.set_cons_zero, List.set_cons_succ]
          refine Seqo.light (v := ?_) rfl (by kernel_rfl) ?_ ?_
          rotate_left 1
          focus (intro w hSw; (try dsimp only at hSw); go_simp; try with_reducible rfl)
          try simp only [Act.put, List.setIfInBounds_toArray, List.set_cons_zero, List.set_cons_succ]
          refine Seqo.light (v := ?_) rfl (by kernel_rfl) ?_ ?_
          rotate_left 1
          focus (intro w hSw; (try dsimp only at hSw); go_simp; try with_reducible rfl)
          try simp only [Act.put, List.setIfInBounds_toArray, List.set_cons_zero, List.set_cons_succ]
          refine Seqo.light (v := ?_) rfl (by kernel_rfl) ?_ ?_
          rotate_left 1
          focus (intro w hSw; (try dsimp only at hSw); go_simp; try with_reducible rfl)
          try simp only [Act.put, List.setIfInBounds_toArray, List.set_cons_zero, List.set_cons_succ]
          refine Seqo.light (v := ?_) rfl (by kernel_rfl) ?_ ?_
          rotate_left 1
          focus (intro w hSw; (try dsimp only at hSw); go_simp; try with_reducible rfl)
          try simp only [Act.put, List.setIfInBounds_toArray, List.set_cons_zero, List.set_cons_succ]
          refine Seqo.light (v := ?_) rfl (by kernel_rfl) ?_ ?_
          rotate_left 1
          focus (intro w hSw; (try dsimp only at hSw); go_simp; try with_reducible rfl)
          try simp only [Act.put, List.setIfInBounds_toArray, List.set_cons_zero, List.set_cons_succ]
          refine Seqo.light (v := ?_) rfl (by kernel_rfl) ?_ ?_
          rotate_left 1
          focus (intro w hSw; (try dsimp only at hSw); go_simp; try with_reducible rfl)
          try simp only [Act.put, List.setIfInBounds_toArray, List.set_cons_zero, List.set_cons_succ]
          refine Seqo.call (.bool true) rfl (by kernel_rfl) (by kernel_rfl) (fun w hSw => by (try dsimp only at hSw); go_simp; exact ⟨rfl, rfl⟩) ?_ ?_
          · intro w3 hSw
            refine (rrise rs base _ cap w3 hSw.2.2.1 hn).mono ?_
            rintro e w4 ⟨rfl, hb4⟩
            obtain ⟨d0, _, d1, d2⟩ := hSw
            have e0 := (hb4.block _ (lt_of_heap d0)).trans d0
            have e1 := d1.below hb4
            exact ⟨by rw [HOK.out], e0, cells6 e0, e1, d2.trans (hb4.mono d2.size)⟩
          try simp only [Act.put, List.setIfInBounds_toArray, List.set_cons_zero, List.set_cons_succ]
          refine Seqo.light (v := ?_) rfl (by kernel_rfl) ?_ ?_
          rotate_left 1
          focus (intro w hSw; (try dsimp only at hSw); go_simp; try with_reducible rfl)
          try simp only [Act.put, List.setIfInBounds_toArray, List.set_cons_zero, List.set_cons_succ]
          refine Seqo.light (v := ?_) rfl (by kernel_rfl) ?_ ?_
          rotate_left 1
          focus (intro w hSw; (try dsimp only at hSw); go_simp; try with_reducible rfl)
          try simp only [Act.put, List.setIfInBounds_toArray, List.set_cons_zero, List.set_cons_succ]
          refine Seqo.light (v := ?_) rfl (by kernel_rfl) ?_ ?_
          rotate_left 1
          focus (intro w hSw; (try dsimp only at hSw); go_simp; try with_reducible rfl)
          try simp only [Act.put, List.setIfInBounds_toArray, List.set_cons_zero, List.set_cons_succ]
          refine Seqo.light (v := ?_) rfl (by kernel_rfl) ?_ ?_
          rotate_left 1
          focus (intro w hSw; (try dsimp only at hSw); go_simp; try with_reducible rfl)
          try simp only [Act.put, List.setIfInBounds_toArray, List.set_cons_zero, List.set_cons_succ]
          refine Seqo.light (v := ?_) rfl (by kernel_rfl) ?_ ?_
          rotate_left 1
          focus (intro w hSw; (try dsimp only at hSw); go_simp; try with_reducible rfl)
          try simp only [Act.put, List.setIfInBounds_toArray, List.set_cons_zero, List.set_cons_succ]
          refine Seqo.skip rfl (by kernel_rfl) ?_
          try simp only [Act.put, List.setIfInBounds_toArray, List.set_cons_zero, List.set_cons_succ]
          refine Seqo.skip rfl (by kernel_rfl) ?_
          try simp only [Act.put, List.setIfInBounds_toArray, List.set_cons_zero, List.set_cons_succ]
          refine Seqo.skip rfl (by kernel_rfl) ?_
          try simp only [Act.put, List.setIfInBounds_toArray, List.set_cons_zero, List.set_cons_succ]
          refine Seqo.skip rfl (by kernel_rfl) ?_
          try simp only [Act.put, List.setIfInBounds_toArray, List.set_cons_zero, List.set_cons_succ]
          refine Seqo.skip rfl (by kernel_rfl) ?_
          try simp only [Act.put, List.setIfInBounds_toArray, List.set_cons_zero, List.set_cons_succ]
          refine Seqo.skip rfl (by kernel_rfl) ?_
          try simp only [Act.put, List.setIfInBounds_toArray, List.set_cons_zero, List.set_cons_succ]
          refine Seqo.skip rfl (by kernel_rfl) ?_
          try simp only [Act.put, List.setIfInBounds_toArray, List.set_cons_zero, List.set_cons_succ]
          refine Seqo.skip rfl (by kernel_rfl) ?_
          try simp only [Act.put, List.setIfInBounds_toArray, List.set_cons_zero, List.set_cons_succ]
          refine Seqo.skip rfl (by kernel_rfl) ?_
          try simp only [Act.put, List.setIfInBounds_toArray, List.set_cons_zero, List.set_cons_succ]
          refine Seqo.skip rfl (by kernel_rfl) ?_
          try simp only [Act.put, List.setIfInBounds_toArray, List.set_cons_zero, List.set_cons_succ]
          refine Seqo.skip rfl (by kernel_rfl) ?_
          try simp only [Act.put, List.setIfInBounds_toArray, List.set_cons_zero, List.set_cons_succ]
          refine Seqo.skip rfl (by kernel_rfl) ?_
          try simp only [Act.put, List.setIfInBounds_toArray, List.set_cons_zero, List.set_cons_succ]
          refine Seqo.skip rfl (by kernel_rfl) ?_
          try simp only [Act.put, List.setIfInBounds_toArray, List.set_cons_zero, List.set_cons_succ]
          refine Seqo.light (v := ?_) rfl (by kernel_rfl) ?_ ?_
          rotate_left 1
          focus (intro w hSw; (try dsimp only at hSw); go_simp; try with_reducible rfl)
          try simp only [Act.put, List.setIfInBounds_toArray, List.set_cons_zero, List.set_cons_succ]
          refine Seqo.light (v := ?_) rfl (by kernel_rfl) ?_ ?_
          rotate_left 1
          focus (intro w hSw; (try dsimp only at hSw); go_simp; try with_reducible rfl)
          try simp only [Act.put, List.setIfInBounds_toArray, List.set_cons_zero, List.set_cons_succ]
          refine Seqo.light (v := ?_) rfl (by kernel_rfl) ?_ ?_
          rotate_left 1
          focus (intro w hSw; (try dsimp only at hSw); go_simp; try with_reducible rfl)
          try simp only [Act.put, List.setIfInBounds_toArray, List.set_cons_zero, List.set_cons_succ]
          refine Seqo.nil fun w5 hS5 => ?_
          have HB5 := Lib.hid hS5.2.2.2
          clear hS5
          go_wp2
          go_ret
          exact ⟨by rw [HV.out]; rfl, HB5.out⟩
        · have hz' : ((rs.length : Int) == 0) = false := beq_eq_false_iff_ne.2 (by omega)
          have hlt : rs.length - 1 < rs.length := by omega
          obtain ⟨a, rfl, hx⟩ := H.out (rs.length - 1) hlt
          clear hx
          have hlast : ∀ w', RecsAt w' (some a) rs → w'.cell? (a.add ((rs.length - 1) * 4)) = some (.int .i64 (rs[rs.length - 1]'hlt).o) := fun w' hr => by
            obtain ⟨a', ha', _, g0, _⟩ := hr (rs.length - 1) hlt
            cases ha'
            exact g0
          have hgd : (rs.getD (rs.length - 1) default).o = (rs[rs.length - 1]'hlt).o := by simp [List.getD_eq_getElem?_getD, List.getElem?_eq_getElem hlt]
          generalize (rs[rs.length - 1]'hlt).o = lo at hlast hgd
          obtain ⟨⟨b0, b1⟩, ⟨b2, b3⟩, _⟩ := headed_bounds HH.out
          have hwr : IntKind.i64.wrap ((rs.length : Int) - 1) = (rs.length : Int) - 1 := IntWalk.i64_in _ (by omega)
          have hws : IntKind.i64.wrap (base + count) = base + count := IntWalk.i64_in _ (by omega)
          have hx1 : (1 : Int) ≤ (rs.length : Int) := by omega
          have hx2 : (rs.length : Int) - 1 < (rs.length : Int) := by omega
          have HLAST := Lib.hid hlast
          have HV := Lib.hid (show V = decide (lo < base + count) from by
            rw [HVV.out]; unfold mayB; rw [HH.out, HOK.out, hgd, decide_eq_false hz]; rfl)
          clear hlast hgd hz hlt b0 b1 b2 b3
          go_upto_region 2 with (fail)
          refine wp_region_seqo [0, 1, 2, 3, 4, 5, 6, 7, 8, 9, 10, 11, 12, 13, 14, 15, 16, 17, 18, 19, 20, 21, 22, 23, 24, 25, 26, 27, 28, 29, 30, 31, 32] (S := (fun w' => w'.heap[w.heap.size]? = some (.cells #[.int .i64 base, .int .i64 count, .int .i64 view, .int .i64 producer, .int .i64 seq, .slice (some a) rs.length cap] 59 (0, 0)) ∧ (w'.cell? ⟨w.heap.size, 0, none⟩ = some (.int .i64 base) ∧ w'.cell? ⟨w.heap.size, 1, none⟩ = some (.int .i64 count) ∧ w'.cell? ⟨w.heap.size, 2, none⟩ = some (.int .i64 view) ∧ w'.cell? ⟨w.heap.size, 3, none⟩ = some (.int .i64 producer) ∧ w'.cell? ⟨w.heap.size, 4, none⟩ = some (.int .i64 seq) ∧ w'.cell? ⟨w.heap.size, 5, none⟩ = some (.slice (some a) rs.length cap)) ∧ RecsAt w' ((some a)) rs ∧ Below w.heap.size w w' ∧ w'.cell? (a.add ((rs.length - 1) * 4)) = some (.int .i64 lo))) (by kernel_rfl) (by kernel_rfl) ⟨HBX.out, cells6 HBX.out, HR1.out, HW.out.drew, HLAST.out _ HR1.out⟩ ?_
          refine Seqo.light (v := ?_) rfl (by kernel_rfl) ?_ ?_
          rotate_left 1
          focus (intro w hSw; (try dsimp only at hSw); go_simp; try with_reducible rfl)
          try simp only [Act.put, List.setIfInBounds_toArray, List.set_cons_zero, List.set_cons_succ]
          refine Seqo.call (.bool true) rfl (by kernel_rfl) (by kernel_rfl) (fun w hSw => by (try dsimp only at hSw); go_simp; exact ⟨rfl, rfl⟩) ?_ ?_
          · intro w3 hSw
            refine (rheaded base count view producer seq _ rs.length cap w3).mono ?_
            rintro e w4 ⟨rfl, hb4⟩
            obtain ⟨d0, _, d1, d2, _⟩ := hSw
            have e0 := (hb4.block _ (lt_of_heap d0)).trans d0
            have e1 := d1.below hb4
            exact ⟨by rw [HH.out], e0, cells6 e0, e1, d2.trans (hb4.mono d2.size), HLAST.out w4 e1⟩
          try simp only [Act.put, List.setIfInBounds_toArray, List.set_cons_zero, List.set_cons_succ]
          refine Seqo.light (v := ?_) rfl (by kernel_rfl) ?_ ?_
          rotate_left 1
          focus (intro w hSw; (try dsimp only at hSw); go_simp; try with_reducible rfl)
          try simp only [Act.put, List.setIfInBounds_toArray, List.set_cons_zero, List.set_cons_succ]
          refine Seqo.light (v := ?_) rfl (by kernel_rfl) ?_ ?_
          rotate_left 1
          focus (intro w hSw; (try dsimp only at hSw); go_simp; try with_reducible rfl)
          try simp only [Act.put, List.setIfInBounds_toArray, List.set_cons_zero, List.set_cons_succ]
          refine Seqo.light (v := ?_) rfl (by kernel_rfl) ?_ ?_
          rotate_left 1
          focus (intro w hSw; (try dsimp only at hSw); go_simp; try with_reducible rfl)
          try simp only [Act.put, List.setIfInBounds_toArray, List.set_cons_zero, List.set_cons_succ]
          refine Seqo.light (v := ?_) rfl (by kernel_rfl) ?_ ?_
          rotate_left 1
          focus (intro w hSw; (try dsimp only at hSw); go_simp; try with_reducible rfl)
          try simp only [Act.put, List.setIfInBounds_toArray, List.set_cons_zero, List.set_cons_succ]
          refine Seqo.light (v := ?_) rfl (by kernel_rfl) ?_ ?_
          rotate_left 1
          focus (intro w hSw; (try dsimp only at hSw); go_simp; try with_reducible rfl)
          try simp only [Act.put, List.setIfInBounds_toArray, List.set_cons_zero, List.set_cons_succ]
          refine Seqo.light (v := ?_) rfl (by kernel_rfl) ?_ ?_
          rotate_left 1
          focus (intro w hSw; (try dsimp only at hSw); go_simp; try with_reducible rfl)
          try simp only [Act.put, List.setIfInBounds_toArray, List.set_cons_zero, List.set_cons_succ]
          refine Seqo.light (v := ?_) rfl (by kernel_rfl) ?_ ?_
          rotate_left 1
          focus (intro w hSw; (try dsimp only at hSw); go_simp; try with_reducible rfl)
          try simp only [Act.put, List.setIfInBounds_toArray, List.set_cons_zero, List.set_cons_succ]
          refine Seqo.light (v := ?_) rfl (by kernel_rfl) ?_ ?_
          rotate_left 1
          focus (intro w hSw; (try dsimp only at hSw); go_simp; try with_reducible rfl)
          try simp only [Act.put, List.setIfInBounds_toArray, List.set_cons_zero, List.set_cons_succ]
          refine Seqo.light (v := ?_) rfl (by kernel_rfl) ?_ ?_
          rotate_left 1
          focus (intro w hSw; (try dsimp only at hSw); go_simp; try with_reducible rfl)
          try simp only [Act.put, List.setIfInBounds_toArray, List.set_cons_zero, List.set_cons_succ]
          refine Seqo.call (.bool true) rfl (by kernel_rfl) (by kernel_rfl) (fun w hSw => by (try dsimp only at hSw); go_simp; exact ⟨rfl, rfl⟩) ?_ ?_
          · intro w3 hSw
            refine (rrise rs base _ cap w3 hSw.2.2.1 hn).mono ?_
            rintro e w4 ⟨rfl, hb4⟩
            obtain ⟨d0, _, d1, d2, _⟩ := hSw
            have e0 := (hb4.block _ (lt_of_heap d0)).trans d0
            have e1 := d1.below hb4
            exact ⟨by rw [HOK.out], e0, cells6 e0, e1, d2.trans (hb4.mono d2.size), HLAST.out w4 e1⟩
          try simp only [Act.put, List.setIfInBounds_toArray, List.set_cons_zero, List.set_cons_succ]
          refine Seqo.light (v := ?_) rfl (by kernel_rfl) ?_ ?_
          rotate_left 1
          focus (intro w hSw; (try dsimp only at hSw); go_simp; try with_reducible rfl)
          try simp only [Act.put, List.setIfInBounds_toArray, List.set_cons_zero, List.set_cons_succ]
          refine Seqo.light (v := ?_) rfl (by kernel_rfl) ?_ ?_
          rotate_left 1
          focus (intro w hSw; (try dsimp only at hSw); go_simp; try with_reducible rfl)
          try simp only [Act.put, List.setIfInBounds_toArray, List.set_cons_zero, List.set_cons_succ]
          refine Seqo.light (v := ?_) rfl (by kernel_rfl) ?_ ?_
          rotate_left 1
          focus (intro w hSw; (try dsimp only at hSw); go_simp; try with_reducible rfl)
          try simp only [Act.put, List.setIfInBounds_toArray, List.set_cons_zero, List.set_cons_succ]
          refine Seqo.light (v := ?_) rfl (by kernel_rfl) ?_ ?_
          rotate_left 1
          focus (intro w hSw; (try dsimp only at hSw); go_simp; try with_reducible rfl)
          try simp only [Act.put, List.setIfInBounds_toArray, List.set_cons_zero, List.set_cons_succ]
          refine Seqo.light (v := ?_) rfl (by kernel_rfl) ?_ ?_
          rotate_left 1
          focus (intro w hSw; (try dsimp only at hSw); go_simp; try with_reducible rfl)
          try simp only [Act.put, List.setIfInBounds_toArray, List.set_cons_zero, List.set_cons_succ]
          refine Seqo.light (v := ?_) rfl (by kernel_rfl) ?_ ?_
          rotate_left 1
          focus (intro w hSw; (try dsimp only at hSw); go_simp; try with_reducible rfl)
          try simp only [Act.put, List.setIfInBounds_toArray, List.set_cons_zero, List.set_cons_succ]
          refine Seqo.light (v := ?_) rfl (by kernel_rfl) ?_ ?_
          rotate_left 1
          focus (intro w hSw; (try dsimp only at hSw); go_simp; try with_reducible rfl)
          try simp only [Act.put, List.setIfInBounds_toArray, List.set_cons_zero, List.set_cons_succ]
          refine Seqo.light (v := ?_) rfl (by kernel_rfl) ?_ ?_
          rotate_left 1
          focus (intro w hSw; (try dsimp only at hSw); go_simp; try with_reducible rfl)
          try simp only [Act.put, List.setIfInBounds_toArray, List.set_cons_zero, List.set_cons_succ]
          refine Seqo.light (v := ?_) rfl (by kernel_rfl) ?_ ?_
          rotate_left 1
          focus (intro w hSw; (try dsimp only at hSw); go_simp; try with_reducible rfl)
          try simp only [Act.put, List.setIfInBounds_toArray, List.set_cons_zero, List.set_cons_succ]
          refine Seqo.light (v := ?_) rfl (by kernel_rfl) ?_ ?_
          rotate_left 1
          focus (intro w hSw; (try dsimp only at hSw); go_simp; try with_reducible rfl)
          try simp only [Act.put, List.setIfInBounds_toArray, List.set_cons_zero, List.set_cons_succ]
          refine Seqo.light (v := ?_) rfl (by kernel_rfl) ?_ ?_
          rotate_left 1
          focus (intro w hSw; (try dsimp only at hSw); go_simp; try with_reducible rfl)
          try simp only [Act.put, List.setIfInBounds_toArray, List.set_cons_zero, List.set_cons_succ]
          refine Seqo.light (v := ?_) rfl (by kernel_rfl) ?_ ?_
          rotate_left 1
          focus (intro w hSw; (try dsimp only at hSw); go_simp; try with_reducible rfl)
          try simp only [Act.put, List.setIfInBounds_toArray, List.set_cons_zero, List.set_cons_succ]
          refine Seqo.light (v := ?_) rfl (by kernel_rfl) ?_ ?_
          rotate_left 1
          focus (intro w hSw; (try dsimp only at hSw); go_simp; try with_reducible rfl)
          try simp only [Act.put, List.setIfInBounds_toArray, List.set_cons_zero, List.set_cons_succ]
          refine Seqo.light (v := ?_) rfl (by kernel_rfl) ?_ ?_
          rotate_left 1
          focus (intro w hSw; (try dsimp only at hSw); go_simp; try with_reducible rfl)
          try simp only [Act.put, List.setIfInBounds_toArray, List.set_cons_zero, List.set_cons_succ]
          refine Seqo.light (v := ?_) rfl (by kernel_rfl) ?_ ?_
          rotate_left 1
          focus (intro w hSw; (try dsimp only at hSw); go_simp; try with_reducible rfl)
          try simp only [Act.put, List.setIfInBounds_toArray, List.set_cons_zero, List.set_cons_succ]
          refine Seqo.light (v := ?_) rfl (by kernel_rfl) ?_ ?_
          rotate_left 1
          focus (intro w hSw; (try dsimp only at hSw); go_simp; try with_reducible rfl)
          try simp only [Act.put, List.setIfInBounds_toArray, List.set_cons_zero, List.set_cons_succ]
          refine Seqo.light (v := ?_) rfl (by kernel_rfl) ?_ ?_
          rotate_left 1
          focus (intro w hSw; (try dsimp only at hSw); go_simp; try with_reducible rfl)
          try simp only [Act.put, List.setIfInBounds_toArray, List.set_cons_zero, List.set_cons_succ]
          refine Seqo.light (v := ?_) rfl (by kernel_rfl) ?_ ?_
          rotate_left 1
          focus (intro w hSw; (try dsimp only at hSw); go_simp; try with_reducible rfl)
          try simp only [Act.put, List.setIfInBounds_toArray, List.set_cons_zero, List.set_cons_succ]
          refine Seqo.light (v := ?_) rfl (by kernel_rfl) ?_ ?_
          rotate_left 1
          focus (intro w hSw; (try dsimp only at hSw); go_simp; try with_reducible rfl)
          try simp only [Act.put, List.setIfInBounds_toArray, List.set_cons_zero, List.set_cons_succ]
          refine Seqo.light (v := ?_) rfl (by kernel_rfl) ?_ ?_
          rotate_left 1
          focus (intro w hSw; (try dsimp only at hSw); go_simp; try with_reducible rfl)
          try simp only [Act.put, List.setIfInBounds_toArray, List.set_cons_zero, List.set_cons_succ]
          refine Seqo.light (v := ?_) rfl (by kernel_rfl) ?_ ?_
          rotate_left 1
          focus (intro w hSw; (try dsimp only at hSw); go_simp; try with_reducible rfl)
          try simp only [Act.put, List.setIfInBounds_toArray, List.set_cons_zero, List.set_cons_succ]
          refine Seqo.nil fun w5 hS5 => ?_
          have HB5 := Lib.hid hS5.2.2.2.1
          clear hS5
          go_wp2
          go_ret
          exact ⟨by rw [HV.out]; rfl, HB5.out⟩
set_option maxRecDepth 100000 in
set_option maxHeartbeats 4000000 in
theorem rplain (base count view producer seq : Int) (ap : Option Addr) (cap : Nat) (rs : List Rec) (w : World) (h : RecsAt w ap rs) (hn : rs.length ≤ 1048576) (X : ByteArray) (Y : Int)
    (hx : (mayB base count view producer seq rs = false ∧ X = ⟨#[]⟩ ∧ Y = 100) ∨ (mayB base count view producer seq rs = true ∧ 262115 < (recsStr base rs).size ∧ X = ⟨#[]⟩ ∧ Y = 4) ∨
      (mayB base count view producer seq rs = true ∧ (recsStr base rs).size ≤ 262115 ∧ X = str (outer (inner base count view producer seq 0 rs.length (recsStr base rs).size (recsStr base rs).data.toList)) ∧ Y = 0)) :
    Calls Tryz.prog 19 #[.agg #[.int .i64 base, .int .i64 count, .int .i64 view, .int .i64 producer, .int .i64 seq, .slice ap rs.length cap]] w fun e w' => e = .returned (.tuple #[.string X, .int .i64 Y]) ∧ Below w.heap.size w w' := by
  have H := Lib.hid h
  have HXX := Lib.hid hx
  clear h hx
  have hw0 := (Below.refl w.heap.size w).alloc (Nat.le_refl _) (.cells #[.int .i64 base, .int .i64 count, .int .i64 view, .int .i64 producer, .int .i64 seq, .slice ap rs.length cap] 59)
  go_enter Tryz.func19, Tryz.ntmps19
  go_wp2_with fail
  refine (rmayb base count view producer seq ap cap rs _ (H.out.below hw0) hn).mono ?_
  rintro e w1 ⟨rfl, hb1⟩
  have HBX := Lib.hid ((hb1.block _ (by show _ < (w.heap.push _).size; simp)).trans (heap_alloc_last w (.cells #[.int .i64 base, .int .i64 count, .int .i64 view, .int .i64 producer, .int .i64 seq, .slice ap rs.length cap] 59)))
  have HW := Lib.hid (hw0.trans (hb1.mono hw0.size))
  have HR1 := Lib.hid ((H.out.below hw0).below hb1)
  clear hb1 hw0
  rcases HXX.out with ⟨q1, q2, q3⟩ | ⟨q1, q4, q2, q3⟩ | ⟨q1, q4, q2, q3⟩
  · subst q2
    subst q3
    rw [q1]
    clear q1
    go_wp2
    go_ret2
    exact ⟨rfl, HW.out⟩
  all_goals
    rw [q1]
    obtain ⟨m1, m2, m3⟩ := may_parts q1
    have hrs : recsErr base rs = 0 := by unfold recsErr; rw [m2]; rfl
    have HM1 := Lib.hid m1
    have HM3 := Lib.hid m3
    clear q1 m1 m2 m3
    obtain ⟨c0, c1, c2, c3, c4, c5⟩ := cells6 HBX.out
    go_wp2_with fail
    refine (rbytes rs base ap cap w1 HR1.out hn).mono ?_
    rintro e w2 ⟨rfl, hb2⟩
    rw [hrs]
    clear c0 c1 c2 c3 c4 c5
    have HBX2 := Lib.hid ((hb2.block _ (lt_of_heap HBX.out)).trans HBX.out)
    have HW2 := Lib.hid (HW.out.trans (hb2.mono HW.out.size))
    clear hb2 hrs
    generalize hP : recsStr base rs = p at *
    have HP := Lib.hid hP
    clear hP
  · subst q2
    subst q3
    by_cases hg : 1048576 < p.size
    · have hg' : (1048576 : Int) < (p.size : Int) := by omega
      clear hg q4
      go_wp2
      go_ret2
      exact ⟨rfl, HW2.out⟩
    · have hg' : ¬ (1048576 : Int) < (p.size : Int) := by omega
      have hg2 : (262144 : Int) < 29 + (p.size : Int) := by omega
      clear hg q4
      go_wp2
      go_ret2
      exact ⟨rfl, HW2.out⟩
  · subst q3
    have HQ := Lib.hid q2
    clear q2
    obtain ⟨pl, rfl⟩ : ∃ l, p = str l := ⟨_, (str_id p).symm⟩
    have hg' : ¬ (1048576 : Int) < ((str pl).size : Int) := by omega
    have hg2 : ¬ (262144 : Int) < 29 + ((str pl).size : Int) := by omega
    have hl' : ((str pl).size : Int) ≤ 1048576 := by omega
    have hsz : ∀ n k, (str (le n k)).size = k := fun n k => by rw [str_size, le_length]
    have hzz : ¬ 9223372036854775807 < 29 + (str pl).size := by omega
    obtain ⟨⟨b0, b1⟩, ⟨b2, b3⟩, ⟨b4, b5⟩, ⟨b6, b7⟩, ⟨b8, b9⟩⟩ := headed_bounds HM1.out
    go_upto_region 6 with (fail)
    refine wp_region_seqo [0, 1, 2, 3, 4, 5, 6, 7, 8, 9, 10, 11, 12, 13, 14, 15, 16, 17, 18, 19, 20, 21, 22, 23, 24, 25, 26, 27, 28, 29, 30, 31, 32] (S := (fun w' => w'.heap[w.heap.size]? = some (.cells #[.int .i64 base, .int .i64 count, .int .i64 view, .int .i64 producer, .int .i64 seq, .slice ap rs.length cap] 59 (0, 0)) ∧ (w'.cell? ⟨w.heap.size, 0, none⟩ = some (.int .i64 base) ∧ w'.cell? ⟨w.heap.size, 1, none⟩ = some (.int .i64 count) ∧ w'.cell? ⟨w.heap.size, 2, none⟩ = some (.int .i64 view) ∧ w'.cell? ⟨w.heap.size, 3, none⟩ = some (.int .i64 producer) ∧ w'.cell? ⟨w.heap.size, 4, none⟩ = some (.int .i64 seq) ∧ w'.cell? ⟨w.heap.size, 5, none⟩ = some (.slice ap rs.length cap)) ∧ Below w.heap.size w w')) (by kernel_rfl) (by kernel_rfl) ⟨HBX2.out, cells6 HBX2.out, HW2.out.drew⟩ ?_
    refine Seqo.light (v := ?_) rfl (by kernel_rfl) ?_ ?_
    rotate_left 1
    focus (intro w hSw; (try dsimp only at hSw); go_simp; try with_reducible rfl)
    try simp only [Act.put, List.setIfInBounds_toArray, List.set_cons_zero, List.set_cons_succ]
    refine Seqo.light (v := ?_) rfl (by kernel_rfl) ?_ ?_
    rotate_left 1
    focus (intro w hSw; (try dsimp only at hSw); go_simp; try with_reducible rfl)
    try simp only [Act.put, List.setIfInBounds_toArray, List.set_cons_zero, List.set_cons_succ]
    refine Seqo.call (.string (str (le (base : Int).toNat 8))) rfl (by kernel_rfl) (by kernel_rfl) (fun w hSw => by (try dsimp only at hSw); go_simp; exact ⟨rfl, rfl⟩) ?_ ?_
    · intro w3 hSw
      refine (fixed w3 (base) 8 8 rfl (by decide) (by decide) (by omega) (by omega) (by show _ < 18446744073709551616; omega)).mono ?_
      rintro e w4 ⟨rfl, hb4⟩
      obtain ⟨d0, _, d2⟩ := hSw
      have e0 := (hb4.block _ (lt_of_heap d0)).trans d0
      exact ⟨rfl, e0, cells6 e0, d2.trans (hb4.mono d2.size)⟩
    try simp only [Act.put, List.setIfInBounds_toArray, List.set_cons_zero, List.set_cons_succ]
    refine Seqo.light (v := ?_) rfl (by kernel_rfl) ?_ ?_
    rotate_left 1
    focus (intro w hSw; (try dsimp only at hSw); go_simp; try with_reducible rfl)
    try simp only [Act.put, List.setIfInBounds_toArray, List.set_cons_zero, List.set_cons_succ]
    refine Seqo.light (v := ?_) rfl (by kernel_rfl) ?_ ?_
    rotate_left 1
    focus (intro w hSw; (try dsimp only at hSw); go_simp; try with_reducible rfl)
    try simp only [Act.put, List.setIfInBounds_toArray, List.set_cons_zero, List.set_cons_succ]
    refine Seqo.call (.string (str (le (count : Int).toNat 2))) rfl (by kernel_rfl) (by kernel_rfl) (fun w hSw => by (try dsimp only at hSw); go_simp; exact ⟨rfl, rfl⟩) ?_ ?_
    · intro w3 hSw
      refine (fixed w3 (count) 2 2 rfl (by decide) (by decide) (by omega) (by omega) (by show _ < 65536; omega)).mono ?_
      rintro e w4 ⟨rfl, hb4⟩
      obtain ⟨d0, _, d2⟩ := hSw
      have e0 := (hb4.block _ (lt_of_heap d0)).trans d0
      exact ⟨rfl, e0, cells6 e0, d2.trans (hb4.mono d2.size)⟩
    try simp only [Act.put, List.setIfInBounds_toArray, List.set_cons_zero, List.set_cons_succ]
    refine Seqo.light (v := ?_) rfl (by kernel_rfl) ?_ ?_
    rotate_left 1
    focus (intro w hSw; (try dsimp only at hSw); go_simp; try with_reducible rfl)
    try simp only [Act.put, List.setIfInBounds_toArray, List.set_cons_zero, List.set_cons_succ]
    refine Seqo.light (v := ?_) rfl (by kernel_rfl) ?_ ?_
    rotate_left 1
    focus (intro w hSw; (try dsimp only at hSw); go_simp; try with_reducible rfl)
    try simp only [Act.put, List.setIfInBounds_toArray, List.set_cons_zero, List.set_cons_succ]
    refine Seqo.light (v := ?_) rfl (by kernel_rfl) ?_ ?_
    rotate_left 1
    focus (intro w hSw; (try dsimp only at hSw); go_simp; try with_reducible rfl)
    try simp only [Act.put, List.setIfInBounds_toArray, List.set_cons_zero, List.set_cons_succ]
    refine Seqo.call (.string (str (le (view : Int).toNat 4))) rfl (by kernel_rfl) (by kernel_rfl) (fun w hSw => by (try dsimp only at hSw); go_simp; exact ⟨rfl, rfl⟩) ?_ ?_
    · intro w3 hSw
      refine (fixed w3 (view) 4 4 rfl (by decide) (by decide) (by omega) (by omega) (by show _ < 4294967296; omega)).mono ?_
      rintro e w4 ⟨rfl, hb4⟩
      obtain ⟨d0, _, d2⟩ := hSw
      have e0 := (hb4.block _ (lt_of_heap d0)).trans d0
      exact ⟨rfl, e0, cells6 e0, d2.trans (hb4.mono d2.size)⟩
    try simp only [Act.put, List.setIfInBounds_toArray, List.set_cons_zero, List.set_cons_succ]
    refine Seqo.light (v := ?_) rfl (by kernel_rfl) ?_ ?_
    rotate_left 1
    focus (intro w hSw; (try dsimp only at hSw); go_simp; try with_reducible rfl)
    try simp only [Act.put, List.setIfInBounds_toArray, List.set_cons_zero, List.set_cons_succ]
    refine Seqo.light (v := ?_) rfl (by kernel_rfl) ?_ ?_
    rotate_left 1
    focus (intro w hSw; (try dsimp only at hSw); go_simp; try with_reducible rfl)
    try simp only [Act.put, List.setIfInBounds_toArray, List.set_cons_zero, List.set_cons_succ]
    refine Seqo.light (v := ?_) rfl (by kernel_rfl) ?_ ?_
    rotate_left 1
    focus (intro w hSw; (try dsimp only at hSw); go_simp; try with_reducible rfl)
    try simp only [Act.put, List.setIfInBounds_toArray, List.set_cons_zero, List.set_cons_succ]
    refine Seqo.call (.string (str (le (producer : Int).toNat 4))) rfl (by kernel_rfl) (by kernel_rfl) (fun w hSw => by (try dsimp only at hSw); go_simp; exact ⟨rfl, rfl⟩) ?_ ?_
    · intro w3 hSw
      refine (fixed w3 (producer) 4 4 rfl (by decide) (by decide) (by omega) (by omega) (by show _ < 4294967296; omega)).mono ?_
      rintro e w4 ⟨rfl, hb4⟩
      obtain ⟨d0, _, d2⟩ := hSw
      have e0 := (hb4.block _ (lt_of_heap d0)).trans d0
      exact ⟨rfl, e0, cells6 e0, d2.trans (hb4.mono d2.size)⟩
    try simp only [Act.put, List.setIfInBounds_toArray, List.set_cons_zero, List.set_cons_succ]
    refine Seqo.light (v := ?_) rfl (by kernel_rfl) ?_ ?_
    rotate_left 1
    focus (intro w hSw; (try dsimp only at hSw); go_simp; try with_reducible rfl)
    try simp only [Act.put, List.setIfInBounds_toArray, List.set_cons_zero, List.set_cons_succ]
    refine Seqo.light (v := ?_) rfl (by kernel_rfl) ?_ ?_
    rotate_left 1
    focus (intro w hSw; (try dsimp only at hSw); go_simp; try with_reducible rfl)
    try simp only [Act.put, List.setIfInBounds_toArray, List.set_cons_zero, List.set_cons_succ]
    refine Seqo.light (v := ?_) rfl (by kernel_rfl) ?_ ?_
    rotate_left 1
    focus (intro w hSw; (try dsimp only at hSw); go_simp; try with_reducible rfl)
    try simp only [Act.put, List.setIfInBounds_toArray, List.set_cons_zero, List.set_cons_succ]
    refine Seqo.call (.string (str (le (seq : Int).toNat 4))) rfl (by kernel_rfl) (by kernel_rfl) (fun w hSw => by (try dsimp only at hSw); go_simp; exact ⟨rfl, rfl⟩) ?_ ?_
    · intro w3 hSw
      refine (fixed w3 (seq) 4 4 rfl (by decide) (by decide) (by omega) (by omega) (by show _ < 4294967296; omega)).mono ?_
      rintro e w4 ⟨rfl, hb4⟩
      obtain ⟨d0, _, d2⟩ := hSw
      have e0 := (hb4.block _ (lt_of_heap d0)).trans d0
      exact ⟨rfl, e0, cells6 e0, d2.trans (hb4.mono d2.size)⟩
    try simp only [Act.put, List.setIfInBounds_toArray, List.set_cons_zero, List.set_cons_succ]
    refine Seqo.light (v := ?_) rfl (by kernel_rfl) ?_ ?_
    rotate_left 1
    focus (intro w hSw; (try dsimp only at hSw); go_simp; try with_reducible rfl)
    try simp only [Act.put, List.setIfInBounds_toArray, List.set_cons_zero, List.set_cons_succ]
    refine Seqo.call (.string (str (le (0 : Int).toNat 1))) rfl (by kernel_rfl) (by kernel_rfl) (fun w hSw => by (try dsimp only at hSw); go_simp; exact ⟨rfl, rfl⟩) ?_ ?_
    · intro w3 hSw
      refine (fixed w3 (0) 1 1 rfl (by decide) (by decide) (by omega) (by omega) (by show _ < 256; omega)).mono ?_
      rintro e w4 ⟨rfl, hb4⟩
      obtain ⟨d0, _, d2⟩ := hSw
      have e0 := (hb4.block _ (lt_of_heap d0)).trans d0
      exact ⟨rfl, e0, cells6 e0, d2.trans (hb4.mono d2.size)⟩
    try simp only [Act.put, List.setIfInBounds_toArray, List.set_cons_zero, List.set_cons_succ]
    refine Seqo.light (v := ?_) rfl (by kernel_rfl) ?_ ?_
    rotate_left 1
    focus (intro w hSw; (try dsimp only at hSw); go_simp; try with_reducible rfl)
    try simp only [Act.put, List.setIfInBounds_toArray, List.set_cons_zero, List.set_cons_succ]
    refine Seqo.light (v := ?_) rfl (by kernel_rfl) ?_ ?_
    rotate_left 1
    focus (intro w hSw; (try dsimp only at hSw); go_simp; try with_reducible rfl)
    try simp only [Act.put, List.setIfInBounds_toArray, List.set_cons_zero, List.set_cons_succ]
    refine Seqo.light (v := ?_) rfl (by kernel_rfl) ?_ ?_
    rotate_left 1
    focus (intro w hSw; (try dsimp only at hSw); go_simp; try with_reducible rfl)
    try simp only [Act.put, List.setIfInBounds_toArray, List.set_cons_zero, List.set_cons_succ]
    refine Seqo.light (v := ?_) rfl (by kernel_rfl) ?_ ?_
    rotate_left 1
    focus (intro w hSw; (try dsimp only at hSw); go_simp; try with_reducible rfl)
    try simp only [Act.put, List.setIfInBounds_toArray, List.set_cons_zero, List.set_cons_succ]
    refine Seqo.call (.string (str (le ((rs.length : Int)).toNat 2))) rfl (by kernel_rfl) (by kernel_rfl) (fun w hSw => by (try dsimp only at hSw); go_simp; exact ⟨rfl, rfl⟩) ?_ ?_
    · intro w3 hSw
      refine (fixed w3 ((rs.length : Int)) 2 2 rfl (by decide) (by decide) (by omega) (by omega) (by have := HM3.out; show _ < 65536; omega)).mono ?_
      rintro e w4 ⟨rfl, hb4⟩
      obtain ⟨d0, _, d2⟩ := hSw
      have e0 := (hb4.block _ (lt_of_heap d0)).trans d0
      exact ⟨rfl, e0, cells6 e0, d2.trans (hb4.mono d2.size)⟩
    try simp only [Act.put, List.setIfInBounds_toArray, List.set_cons_zero, List.set_cons_succ]
    refine Seqo.light (v := ?_) rfl (by kernel_rfl) ?_ ?_
    rotate_left 1
    focus (intro w hSw; (try dsimp only at hSw); go_simp; try with_reducible rfl)
    try simp only [Act.put, List.setIfInBounds_toArray, List.set_cons_zero, List.set_cons_succ]
    refine Seqo.light (v := ?_) rfl (by kernel_rfl) ?_ ?_
    rotate_left 1
    focus (intro w hSw; (try dsimp only at hSw); go_simp; try with_reducible rfl)
    try simp only [Act.put, List.setIfInBounds_toArray, List.set_cons_zero, List.set_cons_succ]
    refine Seqo.light (v := ?_) rfl (by kernel_rfl) ?_ ?_
    rotate_left 1
    focus (intro w hSw; (try dsimp only at hSw); go_simp; try with_reducible rfl)
    try simp only [Act.put, List.setIfInBounds_toArray, List.set_cons_zero, List.set_cons_succ]
    refine Seqo.call (.string (str (le (((str pl).size : Int)).toNat 4))) rfl (by kernel_rfl) (by kernel_rfl) (fun w hSw => by (try dsimp only at hSw); go_simp; exact ⟨rfl, rfl⟩) ?_ ?_
    · intro w3 hSw
      refine (fixed w3 (((str pl).size : Int)) 4 4 rfl (by decide) (by decide) (by omega) (by omega) (by show _ < 4294967296; omega)).mono ?_
      rintro e w4 ⟨rfl, hb4⟩
      obtain ⟨d0, _, d2⟩ := hSw
      have e0 := (hb4.block _ (lt_of_heap d0)).trans d0
      exact ⟨rfl, e0, cells6 e0, d2.trans (hb4.mono d2.size)⟩
    try simp only [Act.put, List.setIfInBounds_toArray, List.set_cons_zero, List.set_cons_succ]
    refine Seqo.light (v := ?_) rfl (by kernel_rfl) ?_ ?_
    rotate_left 1
    focus (intro w hSw; (try dsimp only at hSw); go_simp; try with_reducible rfl)
    try simp only [Act.put, List.setIfInBounds_toArray, List.set_cons_zero, List.set_cons_succ]
    refine Seqo.light (v := ?_) rfl (by kernel_rfl) ?_ ?_
    rotate_left 1
    focus (intro w hSw; (try dsimp only at hSw); go_simp; try with_reducible rfl)
    try simp only [Act.put, List.setIfInBounds_toArray, List.set_cons_zero, List.set_cons_succ]
    refine Seqo.light (v := .string (str (inner base count view producer seq 0 rs.length (str pl).size pl))) rfl (by kernel_rfl) ?_ ?_
    · intro w hSw
      (try dsimp only at hSw)
      go_simp
      simp only [inner, str_append]
      try rfl
    try simp only [Act.put, List.setIfInBounds_toArray, List.set_cons_zero, List.set_cons_succ]
    refine Seqo.light (v := ?_) rfl (by kernel_rfl) ?_ ?_
    rotate_left 1
    focus (intro w hSw; (try dsimp only at hSw); go_simp; try with_reducible rfl)
    try simp only [Act.put, List.setIfInBounds_toArray, List.set_cons_zero, List.set_cons_succ]
    refine Seqo.nil fun w3 hS3 => ?_
    have HB3 := Lib.hid hS3.2.2
    clear hS3
    have hIl := inner_length base count view producer seq 0 rs.length (str pl).size pl
    rw [str_data] at HQ
    generalize hI : inner base count view producer seq 0 rs.length (str pl).size pl = I at *
    have hIs : (str I).size = I.length := str_size I
    rw [str_size] at hzz q4
    have hIb : I.length ≤ 262144 := by omega
    have hIb' : ((str I).size : Int) ≤ 262144 := by rw [hIs]; omega
    have hIb0 : (0 : Int) ≤ ((str I).size : Int) := by omega
    have HIS := Lib.hid hIs
    clear hI hIs hIl hzz hg2
    go_wp2_with fail
    refine (fixed w3 _ 4 4 rfl (by decide) (by decide) hIb0 (by omega) (by show _ < 4294967296; omega)).mono ?_
    rintro e w4 ⟨rfl, hb4⟩
    go_wp2_with fail
    refine (Crc w4 (str I) (by omega)).mono ?_
    rintro e w5 ⟨rfl, rfl⟩
    have hcl := crc_lt (str I).data.toList
    have HC := Lib.hid hcl
    generalize hC : ((crc (str I).data.toList : Nat) : Int) = C
    have hc0 : 0 ≤ C := by omega
    have hc1 : C < 4294967296 := by have := HC.out; omega
    have HCC := Lib.hid hC
    clear hcl hC
    go_wp2_with fail
    refine (fixed _ _ 4 4 rfl (by decide) (by decide) hc0 (by omega) (by show _ < 4294967296; omega)).mono ?_
    rintro e w6 ⟨rfl, hb6⟩
    go_wp2
    go_ret2
    refine ⟨?_, HB3.out.trans ((hb4.trans (hb6.mono hb4.size)).mono HB3.out.size)⟩
    rw [HQ.out]
    unfold outer
    rw [← HCC.out, Int.toNat_natCast, str_data, ← str_append, ← str_append, ← str_append, ← HIS.out]
    rfl
end Go.Proofs.YtcioejacijkbcaaGreatDoor.Rf
