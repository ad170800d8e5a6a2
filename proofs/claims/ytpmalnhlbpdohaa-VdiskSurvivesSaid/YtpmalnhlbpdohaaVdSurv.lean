/- VdiskSurvives returns true, whatever its arguments are. No condition beside the reach that every row has. -/
import Derived.Test.YtpmalnhlbpdohaaVdN
namespace Go.Proofs.Ytpmalnhlbpdohaa.VdSurv
open Go.RowKit Go.Maps Go.ChangeMaps Go.WideMaps Go.Proofs.Ytpmalnhlbpdohaa.Vd
set_option linter.unusedVariables false
theorem good_f : Vd.Good { data := #[102] } := good_str [102] (by decide) (by decide) (by decide)
/-- the one file, once there is something -/
def Has (k : Nat) (al : ByteArray) (sy : Nat) (fs : List Fil) : Prop :=
  (k = 0 ∧ fs = [] ∧ al.data.toList = [] ∧ sy = 0) ∨ (0 < k ∧ ∃ f, fs = [f] ∧ f.name = { data := #[102] } ∧ f.b = al.data.toList ∧ f.sy = sy)
def Rel (w : World) (len : Nat) (a9 a10 a11 : Value) (w' : World) : Prop :=
  ∃ (k sy : Nat) (al : ByteArray) (fs : List Fil), k ≤ len ∧ a11 = .int .i64 k ∧ a9 = .string al ∧ a10 = .int .i64 sy ∧ Own w.heap.size w w' (w.heap.size + 1) w.heap.size 1048576 fs ∧ Has k al sy fs ∧ al.size ≤ 16384 ∧ sy ≤ al.size
theorem has_total {k sy : Nat} {al : ByteArray} {fs : List Fil} (h : Has k al sy fs) : total fs = al.size := by
  have e : al.data.toList.length = al.size := by simp
  rcases h with ⟨_, rfl, h, _⟩ | ⟨_, f, rfl, _, h, _⟩
  · rw [h] at e; simp [total] at e ⊢; exact e
  · simp [total, h]
theorem append_has {B : Nat} {w0 w : World} {bd bm : Nat} (hB : B ≤ w0.heap.size) {k sy : Nat} {al p : ByteArray} {fs : List Fil} (O : Own B w0 w bd bm 1048576 fs) (h : Has k al sy fs) (hz : al.size + p.size ≤ 1048576) :
    Calls Try.prog 19 #[.pointer (some ⟨bd, 0, none⟩), .string { data := #[102] }, .string p] w fun e w' => e = .returned (.int .i64 0) ∧ ∃ f : Fil, Own B w0 w' bd bm 1048576 [f] ∧ f.name = { data := #[102] } ∧ f.b = al.data.toList ++ p.data.toList ∧ f.sy = sy := by
  have ht := has_total h
  rcases h with ⟨_, rfl, h, rfl⟩ | ⟨_, f, rfl, hn, h, rfl⟩
  · refine (append_new O.disk _ _ good_f (by simp) (by decide) (by rw [ht]; exact hz)).mono ?_
    rintro e w' ⟨rfl, bf, v, E⟩
    exact ⟨rfl, _, O.evolves hB E, rfl, by rw [h]; rfl, rfl⟩
  · refine (append_some (l1 := []) (l2 := []) f O.disk _ _ hn (by rw [List.nil_append, ht]; exact hz)).mono ?_
    rintro e w' ⟨rfl, v, E⟩
    exact ⟨rfl, _, O.evolves hB E, hn, by simp [h], rfl⟩
set_option maxRecDepth 100000 in
set_option maxHeartbeats 2000000 in
theorem walk (ap : Option Addr) (cap : Nat) (ss : List ByteArray) (hl : ss.length * 16 ≤ 140737488351232) (hz : ∀ s ∈ ss, s.size ≤ 140737488351232) (bp : Option Addr) (bcap : Nat) (bs : List Bool) (hbl : bs.length ≤ 140737488351232) (keep : Int) (_ : (Lit.int .i64 keep).wf = true) (w : World)
    (hs : ∀ i, i < ss.length → ∃ a, ap = some a ∧ a.block < w.heap.size ∧ w.cell? (a.add i) = some (.string (ss.getD i ByteArray.empty)))
    (hb : ∀ i, i < bs.length → ∃ a, bp = some a ∧ a.block < w.heap.size ∧ w.cell? (a.add i) = some (.bool (bs.getD i false))) :
    Calls Try.prog 5 #[.slice ap ss.length cap, .slice bp bs.length bcap, .int .i64 keep] w fun e w' => e = .returned (.bool true) ∧ Below w.heap.size w w' := by
  have HS := Lib.hid hs
  have HB := Lib.hid hb
  have HZ := Lib.hid hz
  have HG := Lib.hid good_f
  clear hs hb hz
  go_enter Try.func5, Try.ntmps5
  go_wp2_with fail
  refine (new_disk w 1048576 (by omega)).mono ?_
  rintro e w1 ⟨rfl, O1⟩
  have H1 := Lib.hid O1
  clear O1
  go_wp2_with fail
  go_loopw [9, 10, 11] (fun a9 a10 a11 w' => Rel w ss.length a9 a10 a11 w') (fun _ _ i _ => ss.length - (intOf i).toNat)
  case atStart => exact ⟨0, 0, _, [], Nat.zero_le _, rfl, rfl, rfl, H1.out, .inl ⟨rfl, rfl, rfl, rfl⟩, by decide, by decide⟩
  case round =>
    obtain ⟨k, sy, al, fs, hk, rfl, rfl, rfl, O, hh, hal, hsy⟩ := hrel
    have HO := Lib.hid O
    have HH := Lib.hid hh
    clear O hh
    by_cases hlt : k < ss.length
    · obtain ⟨a, rfl, hab, hcs⟩ := HS.out k hlt
      have hc1 : wr.cell? (a.add k) = some (.string (ss.getD k ByteArray.empty)) := (HO.out.below.cell (by unfold Addr.add; split <;> exact hab)).trans hcs
      have hpz : (ss.getD k ByteArray.empty).size ≤ 140737488351232 := by
        rw [List.getD_eq_getElem?_getD, List.getElem?_eq_getElem hlt]
        exact HZ.out _ (List.getElem_mem _)
      generalize ss.getD k ByteArray.empty = p at hc1 hpz
      clear hcs
      by_cases hbig : 16384 < al.size + p.size
      · go_wp2_with (go_at_call 18; refine (awake _).mono ?_; rintro e w3 ⟨rfl, hb3⟩)
        go_ret
        exact ⟨rfl, (HO.out.more (Nat.le_refl _) hb3).below⟩
      · go_wp2_with fail
        refine (append_has (Nat.le_refl _) HO.out HH.out (by omega)).mono ?_
        rintro e w3 ⟨rfl, f, O3, hn, hfb, hfs⟩
        have HO3 := Lib.hid O3
        have HN := Lib.hid hn
        have HFB := Lib.hid hfb
        have HFS := Lib.hid hfs
        have hc3 : w3.cell? (a.add k) = some (.string p) := by
          obtain ⟨a', e1, e2, e3⟩ := HS.out k hlt
          cases e1
          rw [← hc1]
          exact (O3.below.cell (by unfold Addr.add; split <;> exact hab)).trans (HO.out.below.cell (by unfold Addr.add; split <;> exact hab)).symm
        clear O3 hn hfb hfs
        by_cases hkb : k < bs.length
        · obtain ⟨b, rfl, hbb, hcb⟩ := HB.out k hkb
          have hc4 : w3.cell? (b.add k) = some (.bool (bs.getD k false)) := (HO3.out.below.cell (by unfold Addr.add; split <;> exact hbb)).trans hcb
          clear hcb
          generalize bs.getD k false = q at hc4
          cases q
          · go_wp2
            go_roundw
            case rel => exact ⟨k + 1, sy, al ++ p, [f], by omega, by go_num, rfl, rfl, HO3.out, .inr ⟨by omega, f, rfl, HN.out, by rw [HFB.out]; simp, HFS.out⟩, by rw [ByteArray.size_append]; omega, by rw [ByteArray.size_append]; omega⟩
            case measure => simp [intOf]; omega
          · go_wp2_with fail
            refine (sync_some (l1 := []) (l2 := []) f HO3.out.disk _ HN.out).mono ?_
            rintro e w4 ⟨rfl, E4⟩
            have HO4 := Lib.hid (HO3.out.evolves (Nat.le_refl _) E4)
            have hfl : f.b.length = al.size + p.size := by rw [HFB.out]; simp
            have HFL := Lib.hid hfl
            clear E4 hfl
            go_wp2
            go_roundw
            case rel => exact ⟨k + 1, al.size + p.size, al ++ p, _, by omega, by go_num, rfl, by go_num, HO4.out, .inr ⟨by omega, _, rfl, HN.out, by rw [HFB.out]; simp, HFL.out⟩, by rw [ByteArray.size_append]; omega, by rw [ByteArray.size_append]; omega⟩
            case measure => simp [intOf]; omega
        · go_wp2
          go_roundw
          case rel => exact ⟨k + 1, sy, al ++ p, [f], by omega, by go_num, rfl, rfl, HO3.out, .inr ⟨by omega, f, rfl, HN.out, by rw [HFB.out]; simp, HFS.out⟩, by rw [ByteArray.size_append]; omega, by rw [ByteArray.size_append]; omega⟩
          case measure => simp [intOf]; omega
    · obtain rfl : k = ss.length := by omega
      by_cases h0 : ss.length = 0
      · have h0b : ((ss.length : Int) == 0) = true := by simp [h0]
        go_wp2_with (go_at_call 18; refine (awake _).mono ?_; rintro e w3 ⟨rfl, hb3⟩)
        go_ret
        exact ⟨rfl, (HO.out.more (Nat.le_refl _) hb3).below⟩
      · have h0b : ((ss.length : Int) == 0) = false := by simp [h0]
        obtain ⟨f, hf, hn, hfb, hfs⟩ : ∃ f, fs = [f] ∧ f.name = { data := #[102] } ∧ f.b = al.data.toList ∧ f.sy = sy := by
          rcases HH.out with ⟨h, _⟩ | ⟨_, h⟩
          · exact absurd h h0
          · exact h
        subst hf
        have hfl : f.b.length = al.size := by rw [hfb]; simp
        have HN := Lib.hid hn
        have HFB := Lib.hid hfb
        have HFS := Lib.hid hfs
        have HFL := Lib.hid hfl
        have HO2 := Lib.hid (HO.out.more (Nat.le_refl _) ((Below.refl wr.heap.size wr).alloc (Nat.le_refl _) (.cells #[.int .i64 keep] 3)))
        have hkc : (wr.alloc (.cells #[.int .i64 keep] 3)).cell? ⟨wr.heap.size, 0, none⟩ = some (.int .i64 keep) := by
          have : (wr.alloc (.cells #[.int .i64 keep] 3)).heap[wr.heap.size]? = _ := heap_alloc_new _ _
          rw [cell_of this]; rfl
        have HKC := Lib.hid hkc
        clear hn hfb hfs hfl hkc
        go_wp2_with fail
        refine (crash_yes HO2.out.disk (some ⟨wr.heap.size, 0, none⟩) 1 [keep] (by simp) ?_).mono ?_
        · intro i hi
          obtain rfl : i = 0 := by simp at hi; exact hi
          refine ⟨_, rfl, by simp, ?_, HKC.out⟩
          intro hD
          have := HO.out.disk.lt _ hD
          simp only at this; omega
        rintro e w5 ⟨rfl, fs5, S5, E5⟩
        have HO5 := Lib.hid (HO2.out.evolves (Nat.le_refl _) E5)
        clear E5
        obtain ⟨hl5, hs5⟩ := S5
        obtain ⟨f5, rfl⟩ : ∃ f, fs5 = [f] := by
          match fs5, hl5 with
          | [f], _ => exact ⟨f, rfl⟩
        obtain ⟨⟨n5, -⟩, q5⟩ := hs5 0 _ f5 rfl rfl
        clear hs5 hl5
        have hr : rank [f] f = 0 := by simp [rank, sorted, nm]
        rw [hr, if_pos (by simp), HFL.out, HFS.out, HFB.out] at q5
        obtain ⟨q6, q7⟩ := q5
        have hk0 : keepOf [keep] 0 al.size sy = (min (max keep 0) ((al.size : Int) - sy)).toNat := by simp [keepOf]
        rw [hk0] at q6 q7
        have HN5 := Lib.hid (n5.trans HN.out)
        obtain ⟨W, hW⟩ : ∃ W : Nat, W = sy + (min (max keep 0) ((al.size : Int) - sy)).toNat := ⟨_, rfl⟩
        rw [← hW] at q6 q7
        have hWl : W ≤ al.size := by omega
        have hb5 : f5.b.length = W := by rw [q6]; simp; omega
        have HQ6 := Lib.hid q6
        have HQ7 := Lib.hid q7
        have HB5 := Lib.hid hb5
        have HW := Lib.hid hW
        have hstr : str ((f5.b.drop 0).take W) = al.extract 0 W := by
          rw [q6]
          apply ByteArray.ext
          simp only [str, List.drop_zero, List.take_take, Nat.min_self, ByteArray.data_extract]
          apply Array.toList_inj.1
          simp [List.extract_eq_take_drop]
        have HST := Lib.hid hstr
        clear q6 q7 n5 hr hk0 hW hb5 hstr
        have fin : ∀ w6, Own w.heap.size w w6 (w.heap.size + 1) w.heap.size 1048576 [f5] → Hid (Own w.heap.size w w6 (w.heap.size + 1) w.heap.size 1048576 [f5]) := fun _ h => h
        by_cases hk : 0 < keep
        · have hwant : (sy : Int) + min keep ((al.size : Int) - sy) = (W : Int) := by have := HW.out; omega
          have HWA := Lib.hid hwant
          clear hwant
          go_wp2_with fail
          rw [HWA.out]
          refine (read_some HO5.out.disk f5 (by simp) _ HN5.out 0 W (by rw [HB5.out]; omega)).mono ?_
          rintro e w6 ⟨rfl, E6⟩
          rw [HST.out]
          have HO6 := Lib.hid (HO5.out.more (Nat.le_refl _) E6)
          clear E6
          go_wp2_with fail
          refine (size_some HO6.out.disk f5 (by simp) _ HN5.out).mono ?_
          rintro e w7 ⟨rfl, E7⟩
          rw [HB5.out]
          have HO7 := Lib.hid (HO6.out.more (Nat.le_refl _) E7)
          clear E7
          go_wp2_with fail
          refine (synced_some HO7.out.disk f5 (by simp) _ HN5.out).mono ?_
          rintro e w8 ⟨rfl, E8⟩
          rw [HQ7.out]
          have HO8 := Lib.hid (HO7.out.more (Nat.le_refl _) E8)
          clear E8
          go_wp2_with fail
          refine (awake w8).mono ?_
          rintro e w9 ⟨rfl, E9⟩
          have HO9 := Lib.hid (HO8.out.more (Nat.le_refl _) E9)
          go_wp2
          go_ret
          exact ⟨rfl, HO9.out.below⟩
        · have hwant : W = sy := by have := HW.out; omega
          have HWA := Lib.hid hwant
          clear hwant
          go_wp2_with fail
          rw [← HWA.out]
          refine (read_some HO5.out.disk f5 (by simp) _ HN5.out 0 W (by rw [HB5.out]; omega)).mono ?_
          rintro e w6 ⟨rfl, E6⟩
          rw [HST.out]
          have HO6 := Lib.hid (HO5.out.more (Nat.le_refl _) E6)
          clear E6
          go_wp2_with fail
          refine (size_some HO6.out.disk f5 (by simp) _ HN5.out).mono ?_
          rintro e w7 ⟨rfl, E7⟩
          rw [HB5.out]
          have HO7 := Lib.hid (HO6.out.more (Nat.le_refl _) E7)
          clear E7
          go_wp2_with fail
          refine (synced_some HO7.out.disk f5 (by simp) _ HN5.out).mono ?_
          rintro e w8 ⟨rfl, E8⟩
          rw [HQ7.out]
          have HO8 := Lib.hid (HO7.out.more (Nat.le_refl _) E8)
          clear E8
          go_wp2_with fail
          refine (awake w8).mono ?_
          rintro e w9 ⟨rfl, E9⟩
          have HO9 := Lib.hid (HO8.out.more (Nat.le_refl _) E9)
          go_wp2
          go_ret
          exact ⟨rfl, HO9.out.below⟩
end Go.Proofs.Ytpmalnhlbpdohaa.VdSurv
