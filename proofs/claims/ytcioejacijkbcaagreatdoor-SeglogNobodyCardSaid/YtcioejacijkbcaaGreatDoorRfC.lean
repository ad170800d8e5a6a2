/- The references' May, Rise, headed. -/
import Derived.Test.YtcioejacijkbcaaGreatDoorRfB
import Derived.Test.YtcioejacijkbcaaGreatDoorBaO
import Derived.Test.YtcioejacijkbcaaGreatDoorRh
import Derived.Deep.Cut
import Derived.Deep.Cut
namespace Go.Proofs.YtcioejacijkbcaaGreatDoor.Rf
open Go.RowKit Go.Maps Go.ChangeMaps Go.WideMaps Go.Proofs.YtcioejacijkbcaaGreatDoor.Su Go.Proofs.YtcioejacijkbcaaGreatDoor.Bt Go.Proofs.YtcioejacijkbcaaGreatDoor.Rc Go.Proofs.YtcioejacijkbcaaGreatDoor.Ba Go.Proofs.YtcioejacijkbcaaGreatDoor.Rg
set_option linter.unusedVariables false
set_option maxRecDepth 100000 in
set_option maxHeartbeats 4000000 in
theorem rmay (r : Rec) (w : World) :
    Calls Tryz.prog 120 #[.agg #[.int .i64 r.o, .string r.k, .string r.v, .bool r.g]] w fun e w' => e = .returned (.bool r.may) ∧ Below w.heap.size w w' := by
  obtain ⟨o, k, v, g⟩ := r
  obtain ⟨m, hm⟩ : ∃ m, m = Rec.may ⟨o, k, v, g⟩ := ⟨_, rfl⟩
  simp only
  rw [← hm]
  simp only [Rec.may, mayRec] at hm
  have hve : v.toList = [] ↔ v.size = 0 := by
    rw [ByteArray.toList_eq, size_data]; exact List.length_eq_zero_iff.symm
  have HM := Lib.hid hm
  have HVE := Lib.hid hve
  clear hm hve
  cases g
  all_goals
    go_enter Tryz.func120, Tryz.ntmps120
    go_wp2
    all_goals
      go_ret
      refine ⟨?_, (Below.refl _ _).alloc (Nat.le_refl _) _⟩
      have hm := HM.out
      have hve := HVE.out
      first
        | (rw [hm]; congr 1; simp [*]; done)
        | (rw [hm]; congr 2; simp [*]; omega)
        | (rw [hm]
           show Ending.returned (.bool v.toList.isEmpty) = _
           rw [isEmpty_size]
           have e1 : k.size ≤ 64 := by omega
           have e2 : v.size ≤ 4096 := by omega
           congr 2
           simp [*])
set_option maxRecDepth 100000 in
set_option maxHeartbeats 4000000 in
theorem rheaded (b c v p s : Int) (ap : Option Addr) (n cap : Nat) (w : World) :
    Calls Tryz.prog 84 #[.agg #[.int .i64 b, .int .i64 c, .int .i64 v, .int .i64 p, .int .i64 s, .slice ap n cap]] w fun e w' => e = .returned (.bool (headed b c v p s)) ∧ Below w.heap.size w w' := by
  obtain ⟨m, hm⟩ : ∃ m, m = headed b c v p s := ⟨_, rfl⟩
  rw [← hm]
  unfold headed at hm
  simp only [inr_eq] at hm
  have HM := Lib.hid hm
  clear hm
  go_enter Tryz.func84, Tryz.ntmps84
  go_wp2
  all_goals
    go_ret
    refine ⟨?_, (Below.refl _ _).alloc (Nat.le_refl _) _⟩
    have hm := HM.out
    first
      | (rw [hm]; congr 1; simp [*]; done)
      | (rw [hm]; congr 2; simp [*]; omega)
/-- do records rise, up to one? -/
theorem rise_next (base : Int) (rs : List Rec) (i : Nat) (h : i < rs.length) : rise base (rs.take (i + 1)) = (rise base (rs.take i) && rs[i].may && decide (nextOf base (rs.take i) ≤ rs[i].o)) := by
  rw [List.take_succ_eq_append_getElem h, rise_snoc]
theorem next_prev (base : Int) (rs : List Rec) (i : Nat) (h : i < rs.length) : nextOf base (rs.take (i + 1)) = rs[i].o + 1 := by
  rw [List.take_succ_eq_append_getElem h, nextOf_snoc]
set_option maxRecDepth 100000 in
set_option maxHeartbeats 4000000 in
theorem rrise (rs : List Rec) (base : Int) (ap : Option Addr) (cap : Nat) (w : World) (h : RecsAt w ap rs) (hn : rs.length ≤ 1048576) :
    Calls Tryz.prog 85 #[.slice ap rs.length cap, .int .i64 base] w fun e w' => e = .returned (.bool (okRecs base rs)) ∧ Below w.heap.size w w' := by
  obtain ⟨X, hX⟩ : ∃ X, X = okRecs base rs := ⟨_, rfl⟩
  rw [← hX]
  have HR := Lib.hid h
  clear h
  by_cases hb0 : base < 0
  · have hx : X = false := by rw [hX]; unfold okRecs; simp; intro h; omega
    have HX := Lib.hid hx
    clear hx hX
    go_enter Tryz.func85, Tryz.ntmps85
    go_wp2
    go_ret
    exact ⟨by rw [HX.out]; rfl, Below.refl _ _⟩
  by_cases hb1 : 1099511627776 ≤ base
  · have hx : X = false := by rw [hX]; unfold okRecs; simp; intro _ h; omega
    have HX := Lib.hid hx
    clear hx hX
    go_enter Tryz.func85, Tryz.ntmps85
    go_wp2
    go_ret
    exact ⟨by rw [HX.out]; rfl, Below.refl _ _⟩
  have hx : X = rise base rs := by
    rw [hX]; unfold okRecs
    rw [decide_eq_true (show 0 ≤ base by omega), decide_eq_true (show base < 1099511627776 by omega)]; rfl
  have HX := Lib.hid hx
  clear hx hX
  go_enter Tryz.func85, Tryz.ntmps85
  go_wp2_with fail
  go_loopw [5] (fun v w' => ∃ i : Nat, i ≤ rs.length ∧ v = .int .i64 i ∧ rise base (rs.take i) = true ∧ Below w.heap.size w w') (fun v _ => rs.length - (intOf v).toNat)
  case atStart => exact ⟨0, by omega, rfl, rfl, Below.refl _ _⟩
  case round =>
    obtain ⟨i, hi, rfl, hris, hbw⟩ := hrel
    have HRIS := Lib.hid hris
    have HW := Lib.hid hbw
    have HRS := Lib.hid (HR.out.below hbw)
    clear hris hbw
    by_cases hlt : i < rs.length
    · have hlt' : (i : Int) < (rs.length : Int) := by omega
      have hi0 : (0 : Int) ≤ (i : Int) := by omega
      obtain ⟨a, rfl, _⟩ := HR.out i hlt
      have hrk := rise_next base rs i hlt
      have hcell : ∀ w', RecsAt w' (some a) rs → w'.cell? (a.add (i * 4)) = some (.int .i64 rs[i].o) ∧ w'.cell? ⟨(a.add (i * 4)).block, (a.add (i * 4)).off + 1, none⟩ = some (.string rs[i].k) ∧ w'.cell? ⟨(a.add (i * 4)).block, (a.add (i * 4)).off + 2, none⟩ = some (.string rs[i].v) ∧ w'.cell? ⟨(a.add (i * 4)).block, (a.add (i * 4)).off + 3, none⟩ = some (.bool rs[i].g) := fun w' hr => by
        obtain ⟨a', ha', _, h0, h1, h2, h3⟩ := hr i hlt
        cases ha'
        exact ⟨h0, h1, h2, h3⟩
      have hprev : 0 < i → ∃ po, nextOf base (rs.take i) = po + 1 ∧ ∀ w', RecsAt w' (some a) rs → w'.cell? (a.add ((i - 1) * 4)) = some (.int .i64 po) := fun hp => by
        refine ⟨(rs[i - 1]'(by omega)).o, ?_, fun w' hr => ?_⟩
        · have := next_prev base rs (i - 1) (by omega)
          rw [show i - 1 + 1 = i from by omega] at this
          exact this
        · obtain ⟨a', ha', _, h0, _⟩ := hr (i - 1) (by omega)
          cases ha'
          exact h0
      have hnb := nextOf_le base (rs.take i) HRIS.out (by omega) (by omega)
      rw [HRIS.out, Bool.true_and] at hrk
      have HPV := Lib.hid hprev
      clear hprev
      generalize rs[i] = r at hrk hcell
      obtain ⟨o, kk, vv, g⟩ := r
      simp only at hcell hrk
      have HCELL := Lib.hid hcell
      have hno : rise base (rs.take (i + 1)) = false → X = false := fun h => by rw [HX.out]; exact rise_take base rs (i + 1) h
      have HNOF := Lib.hid hno
      have HRK := Lib.hid hrk
      clear hcell hrk hno
      cases hmay : (⟨o, kk, vv, g⟩ : Rec).may with
      | false =>
        have HNO := Lib.hid (HNOF.out (by rw [HRK.out, hmay, Bool.false_and]))
        have HMAY := Lib.hid hmay
        clear hmay
        go_upto_region 6 with (fail)
        refine wp_region_seqo [0, 1, 2, 3, 4, 5, 6, 7, 8, 9, 10, 11, 12, 13, 14, 15, 16, 17, 18, 19, 20, 21, 22, 23, 24, 25, 26, 27, 28, 29, 30, 31, 32] (S := (fun w' => (w'.cell? (a.add (i * 4)) = some (.int .i64 o) ∧ w'.cell? ⟨(a.add (i * 4)).block, (a.add (i * 4)).off + 1, none⟩ = some (.string kk) ∧ w'.cell? ⟨(a.add (i * 4)).block, (a.add (i * 4)).off + 2, none⟩ = some (.string vv) ∧ w'.cell? ⟨(a.add (i * 4)).block, (a.add (i * 4)).off + 3, none⟩ = some (.bool g)) ∧ RecsAt w' (some a) rs ∧ Below w.heap.size w w')) (by kernel_rfl) (by kernel_rfl) ⟨HCELL.out wr.drew HRS.out, HRS.out, HW.out.drew⟩ ?_
        refine Seqo.light (v := ?_) rfl (by kernel_rfl) ?_ ?_
        rotate_left 1
        focus (intro w hSw; (try dsimp only at hSw); go_simp; try with_reducible rfl)
        try simp only [Act.put, List.setIfInBounds_toArray, List.set_cons_zero, List.set_cons_succ]
        refine Seqo.light (v := ?_) rfl (by kernel_rfl) ?_ ?_
        rotate_left 1
        focus (intro w hSw; (try dsimp only at hSw); go_simp; try with_reducible rfl)
        try simp only [Act.put, List.setIfInBounds_toArray, List.set_cons_zero, List.set_cons_succ]
        refine Seqo.light (v := ?_) rfl (by kernel_rfl) ?_ ?_
        rotate_left 1
        focus (intro w hSw; (try dsimp only at hSw); go_simp; try with_reducible rfl)
        try simp only [Act.put, List.setIfInBounds_toArray, List.set_cons_zero, List.set_cons_succ]
        refine Seqo.light (v := ?_) rfl (by kernel_rfl) ?_ ?_
        rotate_left 1
        focus (intro w hSw; (try dsimp only at hSw); go_simp; try with_reducible rfl)
        try simp only [Act.put, List.setIfInBounds_toArray, List.set_cons_zero, List.set_cons_succ]
        refine Seqo.call (.bool false) rfl (by kernel_rfl) (by kernel_rfl) (fun w hSw => by (try dsimp only at hSw); go_simp; exact ⟨rfl, rfl⟩) ?_ ?_
        · intro w3 hSw
          refine (rmay ⟨o, kk, vv, g⟩ w3).mono ?_
          rintro e w4 ⟨rfl, hb4⟩
          obtain ⟨_, d5, d6⟩ := hSw
          have d7 := d5.below hb4
          exact ⟨by rw [HMAY.out], HCELL.out w4 d7, d7, d6.trans (hb4.mono d6.size)⟩
        try simp only [Act.put, List.setIfInBounds_toArray, List.set_cons_zero, List.set_cons_succ]
        refine Seqo.light (v := ?_) rfl (by kernel_rfl) ?_ ?_
        rotate_left 1
        focus (intro w hSw; (try dsimp only at hSw); go_simp; try with_reducible rfl)
        try simp only [Act.put, List.setIfInBounds_toArray, List.set_cons_zero, List.set_cons_succ]
        refine Seqo.light (v := ?_) rfl (by kernel_rfl) ?_ ?_
        rotate_left 1
        focus (intro w hSw; (try dsimp only at hSw); go_simp; try with_reducible rfl)
        try simp only [Act.put, List.setIfInBounds_toArray, List.set_cons_zero, List.set_cons_succ]
        refine Seqo.skip rfl (by kernel_rfl) ?_
        try simp only [Act.put, List.setIfInBounds_toArray, List.set_cons_zero, List.set_cons_succ]
        refine Seqo.skip rfl (by kernel_rfl) ?_
        try simp only [Act.put, List.setIfInBounds_toArray, List.set_cons_zero, List.set_cons_succ]
        refine Seqo.skip rfl (by kernel_rfl) ?_
        try simp only [Act.put, List.setIfInBounds_toArray, List.set_cons_zero, List.set_cons_succ]
        refine Seqo.skip rfl (by kernel_rfl) ?_
        try simp only [Act.put, List.setIfInBounds_toArray, List.set_cons_zero, List.set_cons_succ]
        refine Seqo.skip rfl (by kernel_rfl) ?_
        try simp only [Act.put, List.setIfInBounds_toArray, List.set_cons_zero, List.set_cons_succ]
        refine Seqo.skip rfl (by kernel_rfl) ?_
        try simp only [Act.put, List.setIfInBounds_toArray, List.set_cons_zero, List.set_cons_succ]
        refine Seqo.skip rfl (by kernel_rfl) ?_
        try simp only [Act.put, List.setIfInBounds_toArray, List.set_cons_zero, List.set_cons_succ]
        refine Seqo.light (v := ?_) rfl (by kernel_rfl) ?_ ?_
        rotate_left 1
        focus (intro w hSw; (try dsimp only at hSw); go_simp; try with_reducible rfl)
        try simp only [Act.put, List.setIfInBounds_toArray, List.set_cons_zero, List.set_cons_succ]
        refine Seqo.light (v := ?_) rfl (by kernel_rfl) ?_ ?_
        rotate_left 1
        focus (intro w hSw; (try dsimp only at hSw); go_simp; try with_reducible rfl)
        try simp only [Act.put, List.setIfInBounds_toArray, List.set_cons_zero, List.set_cons_succ]
        refine Seqo.skip rfl (by kernel_rfl) ?_
        try simp only [Act.put, List.setIfInBounds_toArray, List.set_cons_zero, List.set_cons_succ]
        refine Seqo.skip rfl (by kernel_rfl) ?_
        try simp only [Act.put, List.setIfInBounds_toArray, List.set_cons_zero, List.set_cons_succ]
        refine Seqo.skip rfl (by kernel_rfl) ?_
        try simp only [Act.put, List.setIfInBounds_toArray, List.set_cons_zero, List.set_cons_succ]
        refine Seqo.skip rfl (by kernel_rfl) ?_
        try simp only [Act.put, List.setIfInBounds_toArray, List.set_cons_zero, List.set_cons_succ]
        refine Seqo.skip rfl (by kernel_rfl) ?_
        try simp only [Act.put, List.setIfInBounds_toArray, List.set_cons_zero, List.set_cons_succ]
        refine Seqo.skip rfl (by kernel_rfl) ?_
        try simp only [Act.put, List.setIfInBounds_toArray, List.set_cons_zero, List.set_cons_succ]
        refine Seqo.skip rfl (by kernel_rfl) ?_
        try simp only [Act.put, List.setIfInBounds_toArray, List.set_cons_zero, List.set_cons_succ]
        refine Seqo.skip rfl (by kernel_rfl) ?_
        try simp only [Act.put, List.setIfInBounds_toArray, List.set_cons_zero, List.set_cons_succ]
        refine Seqo.skip rfl (by kernel_rfl) ?_
        try simp only [Act.put, List.setIfInBounds_toArray, List.set_cons_zero, List.set_cons_succ]
        refine Seqo.skip rfl (by kernel_rfl) ?_
        try simp only [Act.put, List.setIfInBounds_toArray, List.set_cons_zero, List.set_cons_succ]
        refine Seqo.skip rfl (by kernel_rfl) ?_
        try simp only [Act.put, List.setIfInBounds_toArray, List.set_cons_zero, List.set_cons_succ]
        refine Seqo.skip rfl (by kernel_rfl) ?_
        try simp only [Act.put, List.setIfInBounds_toArray, List.set_cons_zero, List.set_cons_succ]
        refine Seqo.skip rfl (by kernel_rfl) ?_
        try simp only [Act.put, List.setIfInBounds_toArray, List.set_cons_zero, List.set_cons_succ]
        refine Seqo.skip rfl (by kernel_rfl) ?_
        try simp only [Act.put, List.setIfInBounds_toArray, List.set_cons_zero, List.set_cons_succ]
        refine Seqo.skip rfl (by kernel_rfl) ?_
        try simp only [Act.put, List.setIfInBounds_toArray, List.set_cons_zero, List.set_cons_succ]
        refine Seqo.skip rfl (by kernel_rfl) ?_
        try simp only [Act.put, List.setIfInBounds_toArray, List.set_cons_zero, List.set_cons_succ]
        refine Seqo.light (v := ?_) rfl (by kernel_rfl) ?_ ?_
        rotate_left 1
        focus (intro w hSw; (try dsimp only at hSw); go_simp; try with_reducible rfl)
        try simp only [Act.put, List.setIfInBounds_toArray, List.set_cons_zero, List.set_cons_succ]
        refine Seqo.nil fun w5 hS5 => ?_
        have HB5 := Lib.hid hS5.2.2
        clear hS5
        go_wp2
        go_ret
        exact ⟨by rw [HNO.out]; rfl, HB5.out⟩
      | true =>
        have HMAY := Lib.hid hmay
        clear hmay
        by_cases hob : o < base
        · have HNO := Lib.hid (HNOF.out (by rw [HRK.out, HMAY.out, Bool.true_and, decide_eq_false_iff_not]; omega))
          go_upto_region 6 with (fail)
          refine wp_region_seqo [0, 1, 2, 3, 4, 5, 6, 7, 8, 9, 10, 11, 12, 13, 14, 15, 16, 17, 18, 19, 20, 21, 22, 23, 24, 25, 26, 27, 28, 29, 30, 31, 32] (S := (fun w' => (w'.cell? (a.add (i * 4)) = some (.int .i64 o) ∧ w'.cell? ⟨(a.add (i * 4)).block, (a.add (i * 4)).off + 1, none⟩ = some (.string kk) ∧ w'.cell? ⟨(a.add (i * 4)).block, (a.add (i * 4)).off + 2, none⟩ = some (.string vv) ∧ w'.cell? ⟨(a.add (i * 4)).block, (a.add (i * 4)).off + 3, none⟩ = some (.bool g)) ∧ RecsAt w' (some a) rs ∧ Below w.heap.size w w')) (by kernel_rfl) (by kernel_rfl) ⟨HCELL.out wr.drew HRS.out, HRS.out, HW.out.drew⟩ ?_
          refine Seqo.light (v := ?_) rfl (by kernel_rfl) ?_ ?_
          rotate_left 1
          focus (intro w hSw; (try dsimp only at hSw); go_simp; try with_reducible rfl)
          try simp only [Act.put, List.setIfInBounds_toArray, List.set_cons_zero, List.set_cons_succ]
          refine Seqo.light (v := ?_) rfl (by kernel_rfl) ?_ ?_
          rotate_left 1
          focus (intro w hSw; (try dsimp only at hSw); go_simp; try with_reducible rfl)
          try simp only [Act.put, List.setIfInBounds_toArray, List.set_cons_zero, List.set_cons_succ]
          refine Seqo.light (v := ?_) rfl (by kernel_rfl) ?_ ?_
          rotate_left 1
          focus (intro w hSw; (try dsimp only at hSw); go_simp; try with_reducible rfl)
          try simp only [Act.put, List.setIfInBounds_toArray, List.set_cons_zero, List.set_cons_succ]
          refine Seqo.light (v := ?_) rfl (by kernel_rfl) ?_ ?_
          rotate_left 1
          focus (intro w hSw; (try dsimp only at hSw); go_simp; try with_reducible rfl)
          try simp only [Act.put, List.setIfInBounds_toArray, List.set_cons_zero, List.set_cons_succ]
          refine Seqo.call (.bool true) rfl (by kernel_rfl) (by kernel_rfl) (fun w hSw => by (try dsimp only at hSw); go_simp; exact ⟨rfl, rfl⟩) ?_ ?_
          · intro w3 hSw
            refine (rmay ⟨o, kk, vv, g⟩ w3).mono ?_
            rintro e w4 ⟨rfl, hb4⟩
            obtain ⟨_, d5, d6⟩ := hSw
            have d7 := d5.below hb4
            exact ⟨by rw [HMAY.out], HCELL.out w4 d7, d7, d6.trans (hb4.mono d6.size)⟩
          try simp only [Act.put, List.setIfInBounds_toArray, List.set_cons_zero, List.set_cons_succ]
          refine Seqo.light (v := ?_) rfl (by kernel_rfl) ?_ ?_
          rotate_left 1
          focus (intro w hSw; (try dsimp only at hSw); go_simp; try with_reducible rfl)
          try simp only [Act.put, List.setIfInBounds_toArray, List.set_cons_zero, List.set_cons_succ]
          refine Seqo.light (v := ?_) rfl (by kernel_rfl) ?_ ?_
          rotate_left 1
          focus (intro w hSw; (try dsimp only at hSw); go_simp; try with_reducible rfl)
          try simp only [Act.put, List.setIfInBounds_toArray, List.set_cons_zero, List.set_cons_succ]
          refine Seqo.light (v := ?_) rfl (by kernel_rfl) ?_ ?_
          rotate_left 1
          focus (intro w hSw; (try dsimp only at hSw); go_simp; try with_reducible rfl)
          try simp only [Act.put, List.setIfInBounds_toArray, List.set_cons_zero, List.set_cons_succ]
          refine Seqo.light (v := ?_) rfl (by kernel_rfl) ?_ ?_
          rotate_left 1
          focus (intro w hSw; (try dsimp only at hSw); go_simp; try with_reducible rfl)
          try simp only [Act.put, List.setIfInBounds_toArray, List.set_cons_zero, List.set_cons_succ]
          refine Seqo.light (v := ?_) rfl (by kernel_rfl) ?_ ?_
          rotate_left 1
          focus (intro w hSw; (try dsimp only at hSw); go_simp; try with_reducible rfl)
          try simp only [Act.put, List.setIfInBounds_toArray, List.set_cons_zero, List.set_cons_succ]
          refine Seqo.light (v := ?_) rfl (by kernel_rfl) ?_ ?_
          rotate_left 1
          focus (intro w hSw; (try dsimp only at hSw); go_simp; try with_reducible rfl)
          try simp only [Act.put, List.setIfInBounds_toArray, List.set_cons_zero, List.set_cons_succ]
          refine Seqo.light (v := ?_) rfl (by kernel_rfl) ?_ ?_
          rotate_left 1
          focus (intro w hSw; (try dsimp only at hSw); go_simp; try with_reducible rfl)
          try simp only [Act.put, List.setIfInBounds_toArray, List.set_cons_zero, List.set_cons_succ]
          refine Seqo.light (v := ?_) rfl (by kernel_rfl) ?_ ?_
          rotate_left 1
          focus (intro w hSw; (try dsimp only at hSw); go_simp; try with_reducible rfl)
          try simp only [Act.put, List.setIfInBounds_toArray, List.set_cons_zero, List.set_cons_succ]
          refine Seqo.light (v := ?_) rfl (by kernel_rfl) ?_ ?_
          rotate_left 1
          focus (intro w hSw; (try dsimp only at hSw); go_simp; try with_reducible rfl)
          try simp only [Act.put, List.setIfInBounds_toArray, List.set_cons_zero, List.set_cons_succ]
          refine Seqo.light (v := ?_) rfl (by kernel_rfl) ?_ ?_
          rotate_left 1
          focus (intro w hSw; (try dsimp only at hSw); go_simp; try with_reducible rfl)
          try simp only [Act.put, List.setIfInBounds_toArray, List.set_cons_zero, List.set_cons_succ]
          refine Seqo.light (v := ?_) rfl (by kernel_rfl) ?_ ?_
          rotate_left 1
          focus (intro w hSw; (try dsimp only at hSw); go_simp; try with_reducible rfl)
          try simp only [Act.put, List.setIfInBounds_toArray, List.set_cons_zero, List.set_cons_succ]
          refine Seqo.skip rfl (by kernel_rfl) ?_
          try simp only [Act.put, List.setIfInBounds_toArray, List.set_cons_zero, List.set_cons_succ]
          refine Seqo.skip rfl (by kernel_rfl) ?_
          try simp only [Act.put, List.setIfInBounds_toArray, List.set_cons_zero, List.set_cons_succ]
          refine Seqo.skip rfl (by kernel_rfl) ?_
          try simp only [Act.put, List.setIfInBounds_toArray, List.set_cons_zero, List.set_cons_succ]
          refine Seqo.skip rfl (by kernel_rfl) ?_
          try simp only [Act.put, List.setIfInBounds_toArray, List.set_cons_zero, List.set_cons_succ]
          refine Seqo.skip rfl (by kernel_rfl) ?_
          try simp only [Act.put, List.setIfInBounds_toArray, List.set_cons_zero, List.set_cons_succ]
          refine Seqo.skip rfl (by kernel_rfl) ?_
          try simp only [Act.put, List.setIfInBounds_toArray, List.set_cons_zero, List.set_cons_succ]
          refine Seqo.skip rfl (by kernel_rfl) ?_
          try simp only [Act.put, List.setIfInBounds_toArray, List.set_cons_zero, List.set_cons_succ]
          refine Seqo.skip rfl (by kernel_rfl) ?_
          try simp only [Act.put, List.setIfInBounds_toArray, List.set_cons_zero, List.set_cons_succ]
          refine Seqo.skip rfl (by kernel_rfl) ?_
          try simp only [Act.put, List.setIfInBounds_toArray, List.set_cons_zero, List.set_cons_succ]
          refine Seqo.skip rfl (by kernel_rfl) ?_
          try simp only [Act.put, List.setIfInBounds_toArray, List.set_cons_zero, List.set_cons_succ]
          refine Seqo.skip rfl (by kernel_rfl) ?_
          try simp only [Act.put, List.setIfInBounds_toArray, List.set_cons_zero, List.set_cons_succ]
          refine Seqo.skip rfl (by kernel_rfl) ?_
          try simp only [Act.put, List.setIfInBounds_toArray, List.set_cons_zero, List.set_cons_succ]
          refine Seqo.skip rfl (by kernel_rfl) ?_
          try simp only [Act.put, List.setIfInBounds_toArray, List.set_cons_zero, List.set_cons_succ]
          refine Seqo.skip rfl (by kernel_rfl) ?_
          try simp only [Act.put, List.setIfInBounds_toArray, List.set_cons_zero, List.set_cons_succ]
          refine Seqo.skip rfl (by kernel_rfl) ?_
          try simp only [Act.put, List.setIfInBounds_toArray, List.set_cons_zero, List.set_cons_succ]
          refine Seqo.skip rfl (by kernel_rfl) ?_
          try simp only [Act.put, List.setIfInBounds_toArray, List.set_cons_zero, List.set_cons_succ]
          refine Seqo.light (v := ?_) rfl (by kernel_rfl) ?_ ?_
          rotate_left 1
          focus (intro w hSw; (try dsimp only at hSw); go_simp; try with_reducible rfl)
          try simp only [Act.put, List.setIfInBounds_toArray, List.set_cons_zero, List.set_cons_succ]
          refine Seqo.nil fun w5 hS5 => ?_
          have HB5 := Lib.hid hS5.2.2
          clear hS5
          go_wp2
          go_ret
          exact ⟨by rw [HNO.out]; rfl, HB5.out⟩
        · by_cases hi1 : 0 < i
          · obtain ⟨po, hpo, hpc⟩ := HPV.out hi1
            have HPREV := Lib.hid hpc
            have HPO := Lib.hid hpo
            have hwr : IntKind.i64.wrap ((i : Int) - 1) = (i : Int) - 1 := IntWalk.i64_in _ (by omega)
            have hx1 : (1 : Int) ≤ (i : Int) := by omega
            have hx2 : (i : Int) - 1 < (rs.length : Int) := by omega
            have hx3 : (0 : Int) < (i : Int) := by omega
            clear hpc hpo hnb
            by_cases hpq : o ≤ po
            · have HNO := Lib.hid (HNOF.out (by rw [HRK.out, HMAY.out, Bool.true_and, decide_eq_false_iff_not, HPO.out]; omega))
              go_upto_region 6 with (fail)
              refine wp_region_seqo [0, 1, 2, 3, 4, 5, 6, 7, 8, 9, 10, 11, 12, 13, 14, 15, 16, 17, 18, 19, 20, 21, 22, 23, 24, 25, 26, 27, 28, 29, 30, 31, 32] (S := (fun w' => (w'.cell? (a.add (i * 4)) = some (.int .i64 o) ∧ w'.cell? ⟨(a.add (i * 4)).block, (a.add (i * 4)).off + 1, none⟩ = some (.string kk) ∧ w'.cell? ⟨(a.add (i * 4)).block, (a.add (i * 4)).off + 2, none⟩ = some (.string vv) ∧ w'.cell? ⟨(a.add (i * 4)).block, (a.add (i * 4)).off + 3, none⟩ = some (.bool g)) ∧ RecsAt w' (some a) rs ∧ Below w.heap.size w w' ∧ w'.cell? (a.add ((i - 1) * 4)) = some (.int .i64 po))) (by kernel_rfl) (by kernel_rfl) ⟨HCELL.out wr.drew HRS.out, HRS.out, HW.out.drew, HPREV.out wr.drew HRS.out⟩ ?_
              refine Seqo.light (v := ?_) rfl (by kernel_rfl) ?_ ?_
              rotate_left 1
              focus (intro w hSw; (try dsimp only at hSw); go_simp; try with_reducible rfl)
              try simp only [Act.put, List.setIfInBounds_toArray, List.set_cons_zero, List.set_cons_succ]
              refine Seqo.light (v := ?_) rfl (by kernel_rfl) ?_ ?_
              rotate_left 1
              focus (intro w hSw; (try dsimp only at hSw); go_simp; try with_reducible rfl)
              try simp only [Act.put, List.setIfInBounds_toArray, List.set_cons_zero, List.set_cons_succ]
              refine Seqo.light (v := ?_) rfl (by kernel_rfl) ?_ ?_
              rotate_left 1
              focus (intro w hSw; (try dsimp only at hSw); go_simp; try with_reducible rfl)
              try simp only [Act.put, List.setIfInBounds_toArray, List.set_cons_zero, List.set_cons_succ]
              refine Seqo.light (v := ?_) rfl (by kernel_rfl) ?_ ?_
              rotate_left 1
              focus (intro w hSw; (try dsimp only at hSw); go_simp; try with_reducible rfl)
              try simp only [Act.put, List.setIfInBounds_toArray, List.set_cons_zero, List.set_cons_succ]
              refine Seqo.call (.bool true) rfl (by kernel_rfl) (by kernel_rfl) (fun w hSw => by (try dsimp only at hSw); go_simp; exact ⟨rfl, rfl⟩) ?_ ?_
              · intro w3 hSw
                refine (rmay ⟨o, kk, vv, g⟩ w3).mono ?_
                rintro e w4 ⟨rfl, hb4⟩
                obtain ⟨_, d5, d6, _⟩ := hSw
                have d7 := d5.below hb4
                exact ⟨by rw [HMAY.out], HCELL.out w4 d7, d7, d6.trans (hb4.mono d6.size), HPREV.out w4 d7⟩
              try simp only [Act.put, List.setIfInBounds_toArray, List.set_cons_zero, List.set_cons_succ]
              refine Seqo.light (v := ?_) rfl (by kernel_rfl) ?_ ?_
              rotate_left 1
              focus (intro w hSw; (try dsimp only at hSw); go_simp; try with_reducible rfl)
              try simp only [Act.put, List.setIfInBounds_toArray, List.set_cons_zero, List.set_cons_succ]
              refine Seqo.light (v := ?_) rfl (by kernel_rfl) ?_ ?_
              rotate_left 1
              focus (intro w hSw; (try dsimp only at hSw); go_simp; try with_reducible rfl)
              try simp only [Act.put, List.setIfInBounds_toArray, List.set_cons_zero, List.set_cons_succ]
              refine Seqo.light (v := ?_) rfl (by kernel_rfl) ?_ ?_
              rotate_left 1
              focus (intro w hSw; (try dsimp only at hSw); go_simp; try with_reducible rfl)
              try simp only [Act.put, List.setIfInBounds_toArray, List.set_cons_zero, List.set_cons_succ]
              refine Seqo.light (v := ?_) rfl (by kernel_rfl) ?_ ?_
              rotate_left 1
              focus (intro w hSw; (try dsimp only at hSw); go_simp; try with_reducible rfl)
              try simp only [Act.put, List.setIfInBounds_toArray, List.set_cons_zero, List.set_cons_succ]
              refine Seqo.light (v := ?_) rfl (by kernel_rfl) ?_ ?_
              rotate_left 1
              focus (intro w hSw; (try dsimp only at hSw); go_simp; try with_reducible rfl)
              try simp only [Act.put, List.setIfInBounds_toArray, List.set_cons_zero, List.set_cons_succ]
              refine Seqo.light (v := ?_) rfl (by kernel_rfl) ?_ ?_
              rotate_left 1
              focus (intro w hSw; (try dsimp only at hSw); go_simp; try with_reducible rfl)
              try simp only [Act.put, List.setIfInBounds_toArray, List.set_cons_zero, List.set_cons_succ]
              refine Seqo.light (v := ?_) rfl (by kernel_rfl) ?_ ?_
              rotate_left 1
              focus (intro w hSw; (try dsimp only at hSw); go_simp; try with_reducible rfl)
              try simp only [Act.put, List.setIfInBounds_toArray, List.set_cons_zero, List.set_cons_succ]
              refine Seqo.light (v := ?_) rfl (by kernel_rfl) ?_ ?_
              rotate_left 1
              focus (intro w hSw; (try dsimp only at hSw); go_simp; try with_reducible rfl)
              try simp only [Act.put, List.setIfInBounds_toArray, List.set_cons_zero, List.set_cons_succ]
              refine Seqo.light (v := ?_) rfl (by kernel_rfl) ?_ ?_
              rotate_left 1
              focus (intro w hSw; (try dsimp only at hSw); go_simp; try with_reducible rfl)
              try simp only [Act.put, List.setIfInBounds_toArray, List.set_cons_zero, List.set_cons_succ]
              refine Seqo.light (v := ?_) rfl (by kernel_rfl) ?_ ?_
              rotate_left 1
              focus (intro w hSw; (try dsimp only at hSw); go_simp; try with_reducible rfl)
              try simp only [Act.put, List.setIfInBounds_toArray, List.set_cons_zero, List.set_cons_succ]
              refine Seqo.light (v := ?_) rfl (by kernel_rfl) ?_ ?_
              rotate_left 1
              focus (intro w hSw; (try dsimp only at hSw); go_simp; try with_reducible rfl)
              try simp only [Act.put, List.setIfInBounds_toArray, List.set_cons_zero, List.set_cons_succ]
              refine Seqo.light (v := ?_) rfl (by kernel_rfl) ?_ ?_
              rotate_left 1
              focus (intro w hSw; (try dsimp only at hSw); go_simp; try with_reducible rfl)
              try simp only [Act.put, List.setIfInBounds_toArray, List.set_cons_zero, List.set_cons_succ]
              refine Seqo.light (v := ?_) rfl (by kernel_rfl) ?_ ?_
              rotate_left 1
              focus (intro w hSw; (try dsimp only at hSw); go_simp; try with_reducible rfl)
              try simp only [Act.put, List.setIfInBounds_toArray, List.set_cons_zero, List.set_cons_succ]
              refine Seqo.light (v := ?_) rfl (by kernel_rfl) ?_ ?_
              rotate_left 1
              focus (intro w hSw; (try dsimp only at hSw); go_simp; try with_reducible rfl)
              try simp only [Act.put, List.setIfInBounds_toArray, List.set_cons_zero, List.set_cons_succ]
              refine Seqo.light (v := ?_) rfl (by kernel_rfl) ?_ ?_
              rotate_left 1
              focus (intro w hSw; (try dsimp only at hSw); go_simp; try with_reducible rfl)
              try simp only [Act.put, List.setIfInBounds_toArray, List.set_cons_zero, List.set_cons_succ]
              refine Seqo.light (v := ?_) rfl (by kernel_rfl) ?_ ?_
              rotate_left 1
              focus (intro w hSw; (try dsimp only at hSw); go_simp; try with_reducible rfl)
              try simp only [Act.put, List.setIfInBounds_toArray, List.set_cons_zero, List.set_cons_succ]
              refine Seqo.light (v := ?_) rfl (by kernel_rfl) ?_ ?_
              rotate_left 1
              focus (intro w hSw; (try dsimp only at hSw); go_simp; try with_reducible rfl)
              try simp only [Act.put, List.setIfInBounds_toArray, List.set_cons_zero, List.set_cons_succ]
              refine Seqo.light (v := ?_) rfl (by kernel_rfl) ?_ ?_
              rotate_left 1
              focus (intro w hSw; (try dsimp only at hSw); go_simp; try with_reducible rfl)
              try simp only [Act.put, List.setIfInBounds_toArray, List.set_cons_zero, List.set_cons_succ]
              refine Seqo.light (v := ?_) rfl (by kernel_rfl) ?_ ?_
              rotate_left 1
              focus (intro w hSw; (try dsimp only at hSw); go_simp; try with_reducible rfl)
              try simp only [Act.put, List.setIfInBounds_toArray, List.set_cons_zero, List.set_cons_succ]
              refine Seqo.light (v := ?_) rfl (by kernel_rfl) ?_ ?_
              rotate_left 1
              focus (intro w hSw; (try dsimp only at hSw); go_simp; try with_reducible rfl)
              try simp only [Act.put, List.setIfInBounds_toArray, List.set_cons_zero, List.set_cons_succ]
              refine Seqo.light (v := ?_) rfl (by kernel_rfl) ?_ ?_
              rotate_left 1
              focus (intro w hSw; (try dsimp only at hSw); go_simp; try with_reducible rfl)
              try simp only [Act.put, List.setIfInBounds_toArray, List.set_cons_zero, List.set_cons_succ]
              refine Seqo.light (v := ?_) rfl (by kernel_rfl) ?_ ?_
              rotate_left 1
              focus (intro w hSw; (try dsimp only at hSw); go_simp; try with_reducible rfl)
              try simp only [Act.put, List.setIfInBounds_toArray, List.set_cons_zero, List.set_cons_succ]
              refine Seqo.light (v := ?_) rfl (by kernel_rfl) ?_ ?_
              rotate_left 1
              focus (intro w hSw; (try dsimp only at hSw); go_simp; try with_reducible rfl)
              try simp only [Act.put, List.setIfInBounds_toArray, List.set_cons_zero, List.set_cons_succ]
              refine Seqo.light (v := ?_) rfl (by kernel_rfl) ?_ ?_
              rotate_left 1
              focus (intro w hSw; (try dsimp only at hSw); go_simp; try with_reducible rfl)
              try simp only [Act.put, List.setIfInBounds_toArray, List.set_cons_zero, List.set_cons_succ]
              refine Seqo.light (v := ?_) rfl (by kernel_rfl) ?_ ?_
              rotate_left 1
              focus (intro w hSw; (try dsimp only at hSw); go_simp; try with_reducible rfl)
              try simp only [Act.put, List.setIfInBounds_toArray, List.set_cons_zero, List.set_cons_succ]
              refine Seqo.light (v := ?_) rfl (by kernel_rfl) ?_ ?_
              rotate_left 1
              focus (intro w hSw; (try dsimp only at hSw); go_simp; try with_reducible rfl)
              try simp only [Act.put, List.setIfInBounds_toArray, List.set_cons_zero, List.set_cons_succ]
              refine Seqo.light (v := ?_) rfl (by kernel_rfl) ?_ ?_
              rotate_left 1
              focus (intro w hSw; (try dsimp only at hSw); go_simp; try with_reducible rfl)
              try simp only [Act.put, List.setIfInBounds_toArray, List.set_cons_zero, List.set_cons_succ]
              refine Seqo.light (v := ?_) rfl (by kernel_rfl) ?_ ?_
              rotate_left 1
              focus (intro w hSw; (try dsimp only at hSw); go_simp; try with_reducible rfl)
              try simp only [Act.put, List.setIfInBounds_toArray, List.set_cons_zero, List.set_cons_succ]
              refine Seqo.nil fun w5 hS5 => ?_
              have HB5 := Lib.hid hS5.2.2
              clear hS5
              go_wp2
              go_ret
              exact ⟨by rw [HNO.out]; rfl, HB5.out.1⟩
            · have HYES := Lib.hid (show rise base (rs.take (i + 1)) = true from by rw [HRK.out, HMAY.out, Bool.true_and, decide_eq_true_eq, HPO.out]; omega)
              go_upto_region 6 with (fail)
              refine wp_region_seqo [0, 1, 2, 3, 4, 5, 6, 7, 8, 9, 10, 11, 12, 13, 14, 15, 16, 17, 18, 19, 20, 21, 22, 23, 24, 25, 26, 27, 28, 29, 30, 31, 32] (S := (fun w' => (w'.cell? (a.add (i * 4)) = some (.int .i64 o) ∧ w'.cell? ⟨(a.add (i * 4)).block, (a.add (i * 4)).off + 1, none⟩ = some (.string kk) ∧ w'.cell? ⟨(a.add (i * 4)).block, (a.add (i * 4)).off + 2, none⟩ = some (.string vv) ∧ w'.cell? ⟨(a.add (i * 4)).block, (a.add (i * 4)).off + 3, none⟩ = some (.bool g)) ∧ RecsAt w' (some a) rs ∧ Below w.heap.size w w' ∧ w'.cell? (a.add ((i - 1) * 4)) = some (.int .i64 po))) (by kernel_rfl) (by kernel_rfl) ⟨HCELL.out wr.drew HRS.out, HRS.out, HW.out.drew, HPREV.out wr.drew HRS.out⟩ ?_
              refine Seqo.light (v := ?_) rfl (by kernel_rfl) ?_ ?_
              rotate_left 1
              focus (intro w hSw; (try dsimp only at hSw); go_simp; try with_reducible rfl)
              try simp only [Act.put, List.setIfInBounds_toArray, List.set_cons_zero, List.set_cons_succ]
              refine Seqo.light (v := ?_) rfl (by kernel_rfl) ?_ ?_
              rotate_left 1
              focus (intro w hSw; (try dsimp only at hSw); go_simp; try with_reducible rfl)
              try simp only [Act.put, List.setIfInBounds_toArray, List.set_cons_zero, List.set_cons_succ]
              refine Seqo.light (v := ?_) rfl (by kernel_rfl) ?_ ?_
              rotate_left 1
              focus (intro w hSw; (try dsimp only at hSw); go_simp; try with_reducible rfl)
              try simp only [Act.put, List.setIfInBounds_toArray, List.set_cons_zero, List.set_cons_succ]
              refine Seqo.light (v := ?_) rfl (by kernel_rfl) ?_ ?_
              rotate_left 1
              focus (intro w hSw; (try dsimp only at hSw); go_simp; try with_reducible rfl)
              try simp only [Act.put, List.setIfInBounds_toArray, List.set_cons_zero, List.set_cons_succ]
              refine Seqo.call (.bool true) rfl (by kernel_rfl) (by kernel_rfl) (fun w hSw => by (try dsimp only at hSw); go_simp; exact ⟨rfl, rfl⟩) ?_ ?_
              · intro w3 hSw
                refine (rmay ⟨o, kk, vv, g⟩ w3).mono ?_
                rintro e w4 ⟨rfl, hb4⟩
                obtain ⟨_, d5, d6, _⟩ := hSw
                have d7 := d5.below hb4
                exact ⟨by rw [HMAY.out], HCELL.out w4 d7, d7, d6.trans (hb4.mono d6.size), HPREV.out w4 d7⟩
              try simp only [Act.put, List.setIfInBounds_toArray, List.set_cons_zero, List.set_cons_succ]
              refine Seqo.light (v := ?_) rfl (by kernel_rfl) ?_ ?_
              rotate_left 1
              focus (intro w hSw; (try dsimp only at hSw); go_simp; try with_reducible rfl)
              try simp only [Act.put, List.setIfInBounds_toArray, List.set_cons_zero, List.set_cons_succ]
              refine Seqo.light (v := ?_) rfl (by kernel_rfl) ?_ ?_
              rotate_left 1
              focus (intro w hSw; (try dsimp only at hSw); go_simp; try with_reducible rfl)
              try simp only [Act.put, List.setIfInBounds_toArray, List.set_cons_zero, List.set_cons_succ]
              refine Seqo.light (v := ?_) rfl (by kernel_rfl) ?_ ?_
              rotate_left 1
              focus (intro w hSw; (try dsimp only at hSw); go_simp; try with_reducible rfl)
              try simp only [Act.put, List.setIfInBounds_toArray, List.set_cons_zero, List.set_cons_succ]
              refine Seqo.light (v := ?_) rfl (by kernel_rfl) ?_ ?_
              rotate_left 1
              focus (intro w hSw; (try dsimp only at hSw); go_simp; try with_reducible rfl)
              try simp only [Act.put, List.setIfInBounds_toArray, List.set_cons_zero, List.set_cons_succ]
              refine Seqo.light (v := ?_) rfl (by kernel_rfl) ?_ ?_
              rotate_left 1
              focus (intro w hSw; (try dsimp only at hSw); go_simp; try with_reducible rfl)
              try simp only [Act.put, List.setIfInBounds_toArray, List.set_cons_zero, List.set_cons_succ]
              refine Seqo.light (v := ?_) rfl (by kernel_rfl) ?_ ?_
              rotate_left 1
              focus (intro w hSw; (try dsimp only at hSw); go_simp; try with_reducible rfl)
              try simp only [Act.put, List.setIfInBounds_toArray, List.set_cons_zero, List.set_cons_succ]
              refine Seqo.light (v := ?_) rfl (by kernel_rfl) ?_ ?_
              rotate_left 1
              focus (intro w hSw; (try dsimp only at hSw); go_simp; try with_reducible rfl)
              try simp only [Act.put, List.setIfInBounds_toArray, List.set_cons_zero, List.set_cons_succ]
              refine Seqo.light (v := ?_) rfl (by kernel_rfl) ?_ ?_
              rotate_left 1
              focus (intro w hSw; (try dsimp only at hSw); go_simp; try with_reducible rfl)
              try simp only [Act.put, List.setIfInBounds_toArray, List.set_cons_zero, List.set_cons_succ]
              refine Seqo.light (v := ?_) rfl (by kernel_rfl) ?_ ?_
              rotate_left 1
              focus (intro w hSw; (try dsimp only at hSw); go_simp; try with_reducible rfl)
              try simp only [Act.put, List.setIfInBounds_toArray, List.set_cons_zero, List.set_cons_succ]
              refine Seqo.light (v := ?_) rfl (by kernel_rfl) ?_ ?_
              rotate_left 1
              focus (intro w hSw; (try dsimp only at hSw); go_simp; try with_reducible rfl)
              try simp only [Act.put, List.setIfInBounds_toArray, List.set_cons_zero, List.set_cons_succ]
              refine Seqo.light (v := ?_) rfl (by kernel_rfl) ?_ ?_
              rotate_left 1
              focus (intro w hSw; (try dsimp only at hSw); go_simp; try with_reducible rfl)
              try simp only [Act.put, List.setIfInBounds_toArray, List.set_cons_zero, List.set_cons_succ]
              refine Seqo.light (v := ?_) rfl (by kernel_rfl) ?_ ?_
              rotate_left 1
              focus (intro w hSw; (try dsimp only at hSw); go_simp; try with_reducible rfl)
              try simp only [Act.put, List.setIfInBounds_toArray, List.set_cons_zero, List.set_cons_succ]
              refine Seqo.light (v := ?_) rfl (by kernel_rfl) ?_ ?_
              rotate_left 1
              focus (intro w hSw; (try dsimp only at hSw); go_simp; try with_reducible rfl)
              try simp only [Act.put, List.setIfInBounds_toArray, List.set_cons_zero, List.set_cons_succ]
              refine Seqo.light (v := ?_) rfl (by kernel_rfl) ?_ ?_
              rotate_left 1
              focus (intro w hSw; (try dsimp only at hSw); go_simp; try with_reducible rfl)
              try simp only [Act.put, List.setIfInBounds_toArray, List.set_cons_zero, List.set_cons_succ]
              refine Seqo.light (v := ?_) rfl (by kernel_rfl) ?_ ?_
              rotate_left 1
              focus (intro w hSw; (try dsimp only at hSw); go_simp; try with_reducible rfl)
              try simp only [Act.put, List.setIfInBounds_toArray, List.set_cons_zero, List.set_cons_succ]
              refine Seqo.light (v := ?_) rfl (by kernel_rfl) ?_ ?_
              rotate_left 1
              focus (intro w hSw; (try dsimp only at hSw); go_simp; try with_reducible rfl)
              try simp only [Act.put, List.setIfInBounds_toArray, List.set_cons_zero, List.set_cons_succ]
              refine Seqo.light (v := ?_) rfl (by kernel_rfl) ?_ ?_
              rotate_left 1
              focus (intro w hSw; (try dsimp only at hSw); go_simp; try with_reducible rfl)
              try simp only [Act.put, List.setIfInBounds_toArray, List.set_cons_zero, List.set_cons_succ]
              refine Seqo.light (v := ?_) rfl (by kernel_rfl) ?_ ?_
              rotate_left 1
              focus (intro w hSw; (try dsimp only at hSw); go_simp; try with_reducible rfl)
              try simp only [Act.put, List.setIfInBounds_toArray, List.set_cons_zero, List.set_cons_succ]
              refine Seqo.light (v := ?_) rfl (by kernel_rfl) ?_ ?_
              rotate_left 1
              focus (intro w hSw; (try dsimp only at hSw); go_simp; try with_reducible rfl)
              try simp only [Act.put, List.setIfInBounds_toArray, List.set_cons_zero, List.set_cons_succ]
              refine Seqo.light (v := ?_) rfl (by kernel_rfl) ?_ ?_
              rotate_left 1
              focus (intro w hSw; (try dsimp only at hSw); go_simp; try with_reducible rfl)
              try simp only [Act.put, List.setIfInBounds_toArray, List.set_cons_zero, List.set_cons_succ]
              refine Seqo.light (v := ?_) rfl (by kernel_rfl) ?_ ?_
              rotate_left 1
              focus (intro w hSw; (try dsimp only at hSw); go_simp; try with_reducible rfl)
              try simp only [Act.put, List.setIfInBounds_toArray, List.set_cons_zero, List.set_cons_succ]
              refine Seqo.light (v := ?_) rfl (by kernel_rfl) ?_ ?_
              rotate_left 1
              focus (intro w hSw; (try dsimp only at hSw); go_simp; try with_reducible rfl)
              try simp only [Act.put, List.setIfInBounds_toArray, List.set_cons_zero, List.set_cons_succ]
              refine Seqo.light (v := ?_) rfl (by kernel_rfl) ?_ ?_
              rotate_left 1
              focus (intro w hSw; (try dsimp only at hSw); go_simp; try with_reducible rfl)
              try simp only [Act.put, List.setIfInBounds_toArray, List.set_cons_zero, List.set_cons_succ]
              refine Seqo.light (v := ?_) rfl (by kernel_rfl) ?_ ?_
              rotate_left 1
              focus (intro w hSw; (try dsimp only at hSw); go_simp; try with_reducible rfl)
              try simp only [Act.put, List.setIfInBounds_toArray, List.set_cons_zero, List.set_cons_succ]
              refine Seqo.light (v := ?_) rfl (by kernel_rfl) ?_ ?_
              rotate_left 1
              focus (intro w hSw; (try dsimp only at hSw); go_simp; try with_reducible rfl)
              try simp only [Act.put, List.setIfInBounds_toArray, List.set_cons_zero, List.set_cons_succ]
              refine Seqo.light (v := ?_) rfl (by kernel_rfl) ?_ ?_
              rotate_left 1
              focus (intro w hSw; (try dsimp only at hSw); go_simp; try with_reducible rfl)
              try simp only [Act.put, List.setIfInBounds_toArray, List.set_cons_zero, List.set_cons_succ]
              refine Seqo.light (v := ?_) rfl (by kernel_rfl) ?_ ?_
              rotate_left 1
              focus (intro w hSw; (try dsimp only at hSw); go_simp; try with_reducible rfl)
              try simp only [Act.put, List.setIfInBounds_toArray, List.set_cons_zero, List.set_cons_succ]
              refine Seqo.light (v := ?_) rfl (by kernel_rfl) ?_ ?_
              rotate_left 1
              focus (intro w hSw; (try dsimp only at hSw); go_simp; try with_reducible rfl)
              try simp only [Act.put, List.setIfInBounds_toArray, List.set_cons_zero, List.set_cons_succ]
              refine Seqo.nil fun w5 hS5 => ?_
              have HB5 := Lib.hid hS5.2.2
              clear hS5
              go_wp2
              go_roundw
              case rel => exact ⟨i + 1, by omega, by go_num, HYES.out, HB5.out.1⟩
              case measure => simp [intOf]; omega
          · have hx3 : ¬ (0 : Int) < (i : Int) := by omega
            have HYES := Lib.hid (show rise base (rs.take (i + 1)) = true from by
              rw [HRK.out, HMAY.out, Bool.true_and, decide_eq_true_eq, show rs.take i = [] from by rw [show i = 0 from by omega]; rfl]
              simp only [nextOf]; omega)
            clear hnb
            go_upto_region 6 with (fail)
            refine wp_region_seqo [0, 1, 2, 3, 4, 5, 6, 7, 8, 9, 10, 11, 12, 13, 14, 15, 16, 17, 18, 19, 20, 21, 22, 23, 24, 25, 26, 27, 28, 29, 30, 31, 32] (S := (fun w' => (w'.cell? (a.add (i * 4)) = some (.int .i64 o) ∧ w'.cell? ⟨(a.add (i * 4)).block, (a.add (i * 4)).off + 1, none⟩ = some (.string kk) ∧ w'.cell? ⟨(a.add (i * 4)).block, (a.add (i * 4)).off + 2, none⟩ = some (.string vv) ∧ w'.cell? ⟨(a.add (i * 4)).block, (a.add (i * 4)).off + 3, none⟩ = some (.bool g)) ∧ RecsAt w' (some a) rs ∧ Below w.heap.size w w')) (by kernel_rfl) (by kernel_rfl) ⟨HCELL.out wr.drew HRS.out, HRS.out, HW.out.drew⟩ ?_
            refine Seqo.light (v := ?_) rfl (by kernel_rfl) ?_ ?_
            rotate_left 1
            focus (intro w hSw; (try dsimp only at hSw); go_simp; try with_reducible rfl)
            try simp only [Act.put, List.setIfInBounds_toArray, List.set_cons_zero, List.set_cons_succ]
            refine Seqo.light (v := ?_) rfl (by kernel_rfl) ?_ ?_
            rotate_left 1
            focus (intro w hSw; (try dsimp only at hSw); go_simp; try with_reducible rfl)
            try simp only [Act.put, List.setIfInBounds_toArray, List.set_cons_zero, List.set_cons_succ]
            refine Seqo.light (v := ?_) rfl (by kernel_rfl) ?_ ?_
            rotate_left 1
            focus (intro w hSw; (try dsimp only at hSw); go_simp; try with_reducible rfl)
            try simp only [Act.put, List.setIfInBounds_toArray, List.set_cons_zero, List.set_cons_succ]
            refine Seqo.light (v := ?_) rfl (by kernel_rfl) ?_ ?_
            rotate_left 1
            focus (intro w hSw; (try dsimp only at hSw); go_simp; try with_reducible rfl)
            try simp only [Act.put, List.setIfInBounds_toArray, List.set_cons_zero, List.set_cons_succ]
            refine Seqo.call (.bool true) rfl (by kernel_rfl) (by kernel_rfl) (fun w hSw => by (try dsimp only at hSw); go_simp; exact ⟨rfl, rfl⟩) ?_ ?_
            · intro w3 hSw
              refine (rmay ⟨o, kk, vv, g⟩ w3).mono ?_
              rintro e w4 ⟨rfl, hb4⟩
              obtain ⟨_, d5, d6⟩ := hSw
              have d7 := d5.below hb4
              exact ⟨by rw [HMAY.out], HCELL.out w4 d7, d7, d6.trans (hb4.mono d6.size)⟩
            try simp only [Act.put, List.setIfInBounds_toArray, List.set_cons_zero, List.set_cons_succ]
            refine Seqo.light (v := ?_) rfl (by kernel_rfl) ?_ ?_
            rotate_left 1
            focus (intro w hSw; (try dsimp only at hSw); go_simp; try with_reducible rfl)
            try simp only [Act.put, List.setIfInBounds_toArray, List.set_cons_zero, List.set_cons_succ]
            refine Seqo.light (v := ?_) rfl (by kernel_rfl) ?_ ?_
            rotate_left 1
            focus (intro w hSw; (try dsimp only at hSw); go_simp; try with_reducible rfl)
            try simp only [Act.put, List.setIfInBounds_toArray, List.set_cons_zero, List.set_cons_succ]
            refine Seqo.light (v := ?_) rfl (by kernel_rfl) ?_ ?_
            rotate_left 1
            focus (intro w hSw; (try dsimp only at hSw); go_simp; try with_reducible rfl)
            try simp only [Act.put, List.setIfInBounds_toArray, List.set_cons_zero, List.set_cons_succ]
            refine Seqo.light (v := ?_) rfl (by kernel_rfl) ?_ ?_
            rotate_left 1
            focus (intro w hSw; (try dsimp only at hSw); go_simp; try with_reducible rfl)
            try simp only [Act.put, List.setIfInBounds_toArray, List.set_cons_zero, List.set_cons_succ]
            refine Seqo.light (v := ?_) rfl (by kernel_rfl) ?_ ?_
            rotate_left 1
            focus (intro w hSw; (try dsimp only at hSw); go_simp; try with_reducible rfl)
            try simp only [Act.put, List.setIfInBounds_toArray, List.set_cons_zero, List.set_cons_succ]
            refine Seqo.light (v := ?_) rfl (by kernel_rfl) ?_ ?_
            rotate_left 1
            focus (intro w hSw; (try dsimp only at hSw); go_simp; try with_reducible rfl)
            try simp only [Act.put, List.setIfInBounds_toArray, List.set_cons_zero, List.set_cons_succ]
            refine Seqo.light (v := ?_) rfl (by kernel_rfl) ?_ ?_
            rotate_left 1
            focus (intro w hSw; (try dsimp only at hSw); go_simp; try with_reducible rfl)
            try simp only [Act.put, List.setIfInBounds_toArray, List.set_cons_zero, List.set_cons_succ]
            refine Seqo.light (v := ?_) rfl (by kernel_rfl) ?_ ?_
            rotate_left 1
            focus (intro w hSw; (try dsimp only at hSw); go_simp; try with_reducible rfl)
            try simp only [Act.put, List.setIfInBounds_toArray, List.set_cons_zero, List.set_cons_succ]
            refine Seqo.light (v := ?_) rfl (by kernel_rfl) ?_ ?_
            rotate_left 1
            focus (intro w hSw; (try dsimp only at hSw); go_simp; try with_reducible rfl)
            try simp only [Act.put, List.setIfInBounds_toArray, List.set_cons_zero, List.set_cons_succ]
            refine Seqo.light (v := ?_) rfl (by kernel_rfl) ?_ ?_
            rotate_left 1
            focus (intro w hSw; (try dsimp only at hSw); go_simp; try with_reducible rfl)
            try simp only [Act.put, List.setIfInBounds_toArray, List.set_cons_zero, List.set_cons_succ]
            refine Seqo.light (v := ?_) rfl (by kernel_rfl) ?_ ?_
            rotate_left 1
            focus (intro w hSw; (try dsimp only at hSw); go_simp; try with_reducible rfl)
            try simp only [Act.put, List.setIfInBounds_toArray, List.set_cons_zero, List.set_cons_succ]
            refine Seqo.light (v := ?_) rfl (by kernel_rfl) ?_ ?_
            rotate_left 1
            focus (intro w hSw; (try dsimp only at hSw); go_simp; try with_reducible rfl)
            try simp only [Act.put, List.setIfInBounds_toArray, List.set_cons_zero, List.set_cons_succ]
            refine Seqo.light (v := ?_) rfl (by kernel_rfl) ?_ ?_
            rotate_left 1
            focus (intro w hSw; (try dsimp only at hSw); go_simp; try with_reducible rfl)
            try simp only [Act.put, List.setIfInBounds_toArray, List.set_cons_zero, List.set_cons_succ]
            refine Seqo.light (v := ?_) rfl (by kernel_rfl) ?_ ?_
            rotate_left 1
            focus (intro w hSw; (try dsimp only at hSw); go_simp; try with_reducible rfl)
            try simp only [Act.put, List.setIfInBounds_toArray, List.set_cons_zero, List.set_cons_succ]
            refine Seqo.skip rfl (by kernel_rfl) ?_
            try simp only [Act.put, List.setIfInBounds_toArray, List.set_cons_zero, List.set_cons_succ]
            refine Seqo.skip rfl (by kernel_rfl) ?_
            try simp only [Act.put, List.setIfInBounds_toArray, List.set_cons_zero, List.set_cons_succ]
            refine Seqo.skip rfl (by kernel_rfl) ?_
            try simp only [Act.put, List.setIfInBounds_toArray, List.set_cons_zero, List.set_cons_succ]
            refine Seqo.skip rfl (by kernel_rfl) ?_
            try simp only [Act.put, List.setIfInBounds_toArray, List.set_cons_zero, List.set_cons_succ]
            refine Seqo.skip rfl (by kernel_rfl) ?_
            try simp only [Act.put, List.setIfInBounds_toArray, List.set_cons_zero, List.set_cons_succ]
            refine Seqo.skip rfl (by kernel_rfl) ?_
            try simp only [Act.put, List.setIfInBounds_toArray, List.set_cons_zero, List.set_cons_succ]
            refine Seqo.skip rfl (by kernel_rfl) ?_
            try simp only [Act.put, List.setIfInBounds_toArray, List.set_cons_zero, List.set_cons_succ]
            refine Seqo.skip rfl (by kernel_rfl) ?_
            try simp only [Act.put, List.setIfInBounds_toArray, List.set_cons_zero, List.set_cons_succ]
            refine Seqo.skip rfl (by kernel_rfl) ?_
            try simp only [Act.put, List.setIfInBounds_toArray, List.set_cons_zero, List.set_cons_succ]
            refine Seqo.skip rfl (by kernel_rfl) ?_
            try simp only [Act.put, List.setIfInBounds_toArray, List.set_cons_zero, List.set_cons_succ]
            refine Seqo.skip rfl (by kernel_rfl) ?_
            try simp only [Act.put, List.setIfInBounds_toArray, List.set_cons_zero, List.set_cons_succ]
            refine Seqo.skip rfl (by kernel_rfl) ?_
            try simp only [Act.put, List.setIfInBounds_toArray, List.set_cons_zero, List.set_cons_succ]
            refine Seqo.light (v := ?_) rfl (by kernel_rfl) ?_ ?_
            rotate_left 1
            focus (intro w hSw; (try dsimp only at hSw); go_simp; try with_reducible rfl)
            try simp only [Act.put, List.setIfInBounds_toArray, List.set_cons_zero, List.set_cons_succ]
            refine Seqo.light (v := ?_) rfl (by kernel_rfl) ?_ ?_
            rotate_left 1
            focus (intro w hSw; (try dsimp only at hSw); go_simp; try with_reducible rfl)
            try simp only [Act.put, List.setIfInBounds_toArray, List.set_cons_zero, List.set_cons_succ]
            refine Seqo.nil fun w5 hS5 => ?_
            have HB5 := Lib.hid hS5.2.2
            clear hS5
            go_wp2
            go_roundw
            case rel => exact ⟨i + 1, by omega, by go_num, HYES.out, HB5.out⟩
            case measure => simp [intOf]; omega
    · obtain rfl : i = rs.length := by omega
      have hlt' : ¬ (rs.length : Int) < (rs.length : Int) := by omega
      have hx : X = true := by have := HRIS.out; rw [List.take_length] at this; rw [HX.out, this]
      have HXT := Lib.hid hx
      clear hx hlt
      go_wp2
      go_ret
      exact ⟨by rw [HXT.out]; rfl, HW.out⟩
end Go.Proofs.YtcioejacijkbcaaGreatDoor.Rf
