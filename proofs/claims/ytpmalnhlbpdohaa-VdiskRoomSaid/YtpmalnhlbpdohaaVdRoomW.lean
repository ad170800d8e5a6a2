/- VdiskRoom: the walk. -/
import Derived.Test.YtpmalnhlbpdohaaVdRoom
import Derived.RegionTactic
import Derived.Lib.MinMax
import Derived.Laws.MakeOwn
namespace Go.Proofs.Ytpmalnhlbpdohaa.VdRoom
open Go.RowKit Go.Maps Go.ChangeMaps Go.WideMaps Go.Proofs.Ytpmalnhlbpdohaa.Vd
set_option linter.unusedVariables false
theorem and_mask (n : Int) (m k : Nat) (hm : m = 2 ^ k - 1) (hk : k < 32) : bits .and .i64 n m = n % (2 ^ k : Nat) := by
  have hlt : 2 ^ k ≤ 2 ^ 31 := Nat.pow_le_pow_right (by decide) (by omega)
  have h127 : (BitVec.ofInt 64 (m : Int)).toNat = 2 ^ k - 1 := by
    rw [BitVec.toNat_ofInt, hm]
    omega
  have key : (BitVec.ofInt 64 n &&& BitVec.ofInt 64 (m : Int)).toNat = (n % ((2 ^ 64 : Nat) : Int)).toNat % 2 ^ k := by
    rw [BitVec.toNat_and, BitVec.toNat_ofInt, h127, Nat.and_two_pow_sub_one_eq_mod]
  show IntKind.i64.wrap ((BitVec.ofInt 64 n &&& BitVec.ofInt 64 (m : Int)).toNat : Nat) = n % (2 ^ k : Nat)
  rw [key, IntKind.wrap_i64]
  have hp : 0 < 2 ^ k := Nat.two_pow_pos k
  have hdvd : (2 ^ k : Nat) ∣ 2 ^ 64 := Nat.pow_dvd_pow 2 (by omega)
  have h1 : ((n % ((2 ^ 64 : Nat) : Int)).toNat % 2 ^ k : Nat) < 2 ^ k := Nat.mod_lt _ hp
  have h2 : (((n % ((2 ^ 64 : Nat) : Int)).toNat % 2 ^ k : Nat) : Int) = n % (2 ^ k : Nat) := by
    rw [Int.natCast_emod, Int.toNat_of_nonneg (Int.emod_nonneg _ (by decide))]
    exact Int.emod_emod_of_dvd n (by exact_mod_cast hdvd)
  rw [h2]
  have h3 : 0 ≤ n % ((2 ^ k : Nat) : Int) := Int.emod_nonneg _ (by omega)
  have h4 : n % ((2 ^ k : Nat) : Int) < (2 ^ k : Nat) := Int.emod_lt_of_pos _ (by omega)
  omega
theorem mask_nat (n : Int) (m k : Nat) (hm : m = 2 ^ k - 1) (hk : k < 32) : ∃ x : Nat, x < 2 ^ k ∧ bits .and .i64 n m = (x : Int) := by
  have hp : 0 < 2 ^ k := Nat.two_pow_pos k
  refine ⟨(n % ((2 ^ k : Nat) : Int)).toNat, ?_, ?_⟩
  · have h4 : n % ((2 ^ k : Nat) : Int) < (2 ^ k : Nat) := Int.emod_lt_of_pos _ (by omega)
    have h3 : 0 ≤ n % ((2 ^ k : Nat) : Int) := Int.emod_nonneg _ (by omega)
    omega
  · rw [and_mask n m k hm hk, Int.toNat_of_nonneg (Int.emod_nonneg _ (by omega))]
set_option maxRecDepth 100000 in
theorem zeros_str (W : World) (k : Nat) (hk : k < 64) : ∃ cs t, t.size = k ∧ (Instr.makeSlice 53 (.int .i64 k) (.int .i64 k)).run Try.prog W = .ok (.slice (some ⟨W.heap.size, 0, none⟩) k k) (W.alloc (.cells cs 5)) ∧
    (convert 53 9 (.slice (some ⟨W.heap.size, 0, none⟩) k k)).run Try.prog (W.alloc (.cells cs 5)) = .ok (.string t) (W.alloc (.cells cs 5)) := by
  obtain ⟨i0, hi, hz0, hz1, hz2⟩ := info_parts info8
  refine ⟨madeCells #[.int .u8 0] k, str (List.replicate k 0), by show (List.replicate k (0 : UInt8)).toArray.size = k; simp, ?_, ?_⟩
  · have := run_make (P := Try.prog) W 53 5 i0 (.int .u8 0) Try.underlying53 hi hz0 .i64 .i64 k k (by omega) (by omega) (by rw [hz2]; omega) (by omega)
    simpa [hz1, Value.cells] using this
  · rw [run_convert_bytes_arg (P := Try.prog) _ _ _ Try.underlying53 Try.underlying5 W.heap.size 0 k k (List.replicate k 0) (by simp) ?_ _ Try.underlying9]
    · congr 2
      simp [strOfNums, str]
    · intro j hj
      have hb : (W.alloc (.cells (madeCells #[.int .u8 0] k) 5)).heap[W.heap.size]? = _ := heap_alloc_new _ _
      rw [cell_of hb]
      simp [madeCells, hj, Nat.mod_one]
theorem cell_lt' {w : World} {a : Addr} {v : Value} (h : w.cell? a = some v) : a.block < w.heap.size := by
  unfold World.cell? at h
  rcases Nat.lt_or_ge a.block w.heap.size with h1 | h1
  · exact h1
  · rw [Array.getElem?_eq_none h1] at h; cases h
/-- the sum of the first sizes -/
def szs (fs : List Fil) : Nat → Nat
  | 0 => 0
  | j + 1 => szs fs j + sz fs j
theorem szs_le {w0 w : World} {n bn : Nat} {fs : List Fil} (S : St w0 w n bn fs) (j : Nat) (hj : j ≤ 3) : szs fs j ≤ n := by
  have h := total_three fs S.three S.own.disk.names
  have := S.own.disk.roomy
  rcases (show j = 0 ∨ j = 1 ∨ j = 2 ∨ j = 3 from by omega) with rfl | rfl | rfl | rfl <;> simp only [szs] <;> omega
theorem szs_all {w0 w : World} {n bn : Nat} {fs : List Fil} (S : St w0 w n bn fs) : szs fs 3 = total fs := by
  have h := total_three fs S.three S.own.disk.names
  simp only [szs]; omega
def Rel (w0 : World) (n bn len : Nat) (i : Value) (w : World) : Prop := ∃ (k : Nat) (fs : List Fil), k ≤ len ∧ k ≤ 200 ∧ i = .int .i64 k ∧ St w0 w n bn fs
set_option maxRecDepth 100000 in
set_option maxHeartbeats 4000000 in
theorem walk (room : Int) (_ : (Lit.int .i64 room).wf = true) (ap : Option Addr) (cap : Nat) (ss : List (Int × Int)) (hl : ss.length * 16 ≤ 140737488351232) (w : World)
    (hs : ∀ i, i < ss.length → ∃ a, ap = some a ∧ a.block < w.heap.size ∧ w.cell? (a.add (i * 2)) = some (.int .i64 (ss.getD i (0, 0)).1) ∧ w.cell? (a.add (i * 2 + 1)) = some (.int .i64 (ss.getD i (0, 0)).2)) :
    Calls Try.prog 7 #[.int .i64 room, .slice ap ss.length cap] w fun e w' => e = .returned (.bool true) ∧ Below w.heap.size w w' := by
  have HS := Lib.hid hs
  clear hs
  obtain ⟨n, hn, hnr⟩ := mask_nat room 255 8 rfl (by decide)
  have hnr' : bits .and .i64 room 255 = (n : Int) := hnr
  have hn' : n < 256 := hn
  clear hnr hn
  go_enter Try.func7, Try.ntmps7
  go_wp2_with fail
  refine (new_disk w n (by omega)).mono ?_
  rintro e w1 ⟨rfl, O1⟩
  have H1 := Lib.hid O1
  clear O1
  have hS1 : St w (w1.alloc (.cells #[.string { data := #[97] }, .string { data := #[98] }, .string { data := #[99] }] 9)) n w1.heap.size [] :=
    ⟨H1.out.more (Nat.le_refl _) ((Below.refl _ _).alloc (Nat.le_refl _) _), heap_alloc_new _ _, fun h => by have := H1.out.disk.lt _ h; omega, by intro f hf; cases hf⟩
  have HS1 := Lib.hid hS1
  clear hS1
  go_wp2_with fail
  go_loopw [9] (fun i w' => Rel w n w1.heap.size ss.length i w') (fun i _ => ss.length - (intOf i).toNat)
  case atStart => exact ⟨0, [], by omega, by omega, rfl, HS1.out⟩
  case round =>
    obtain ⟨k, fs, hk, hk2, rfl, S⟩ := hrel
    have HT := Lib.hid S
    clear S
    by_cases hlt : k < ss.length ∧ k < 200
    · obtain ⟨hlt, hlt2⟩ := hlt
      obtain ⟨a, rfl, hab, hc1, hc2⟩ := HS.out k hlt
      have hc1' : wr.cell? (a.add (k * 2)) = some (.int .i64 (ss.getD k (0, 0)).1) := (HT.out.own.below.cell (by unfold Addr.add; split <;> exact hab)).trans hc1
      have hc2' : wr.cell? (a.add (k * 2 + 1)) = some (.int .i64 (ss.getD k (0, 0)).2) := (HT.out.own.below.cell (by unfold Addr.add; split <;> exact hab)).trans hc2
      generalize ss.getD k (0, 0) = q at hc1' hc2'
      obtain ⟨x, y⟩ := q
      simp only at hc1' hc2'
      have hc3' : wr.cell? ⟨(a.add (k * 2)).block, (a.add (k * 2)).off + 1, none⟩ = some (.int .i64 y) := by
        have e : (⟨(a.add (k * 2)).block, (a.add (k * 2)).off + 1, none⟩ : Addr) = (a.add (k * 2)).add 1 := rfl
        rw [e, Go.Deep.add_add]; exact hc2'
      clear hc1 hc2
      obtain ⟨m, hm, hmx⟩ := mask_nat x 255 8 rfl (by decide)
      obtain ⟨kk, hkk, hky⟩ := mask_nat y 63 6 rfl (by decide)
      have hmx' : bits .and .i64 x 255 = (m : Int) := hmx
      have hky' : bits .and .i64 y 63 = (kk : Int) := hky
      have hm' : m < 256 := hm
      have hkk' : kk < 64 := hkk
      clear hmx hky hm hkk
      have hcn : wr.cell? ⟨w1.heap.size, m % 3, none⟩ = some (.string (n3 (m % 3))) := by
        rw [cell_of HT.out.names]
        rcases (show m % 3 = 0 ∨ m % 3 = 1 ∨ m % 3 = 2 from by omega) with e | e | e <;> rw [e] <;> rfl
      have hrem : (m : Int).tmod 3 = (m : Int) % 3 := Int.tmod_eq_emod_of_nonneg (by omega)
      have htn : ((m : Int) % 3).toNat = m % 3 := by omega
      have b1 : (0 : Int) ≤ (k : Int) := by omega
      have b2 : (k : Int) < (ss.length : Int) := by omega
      have b3 : (0 : Int) ≤ (m : Int) % 3 := by omega
      have b4 : (m : Int) % 3 < 3 := by omega
      go_wp2
      go_quiet (fail)
      have HT2 := Lib.hid (HT.out.more (w' := wr.drewN nq) ⟨rfl, rfl, rfl, Nat.le_refl _, fun _ _ => rfl⟩)
      go_wp2_with fail
      refine (used_yes HT2.out.own.disk).mono ?_
      rintro e w3 ⟨rfl, E3⟩
      have HT3 := Lib.hid (HT2.out.more E3)
      have hx3 : w3.cell? (a.add (k * 2)) = some (.int .i64 x) := (Below.cell (w := wr.drewN nq) E3 (p := a.add (k * 2)) (cell_lt' hc1')).trans hc1'
      clear E3 hc1' hc2' hc3' hcn hrem htn b1 b3 b4
      generalize hq : bits .and .i64 x 1792 = q
      by_cases q1 : q = 256
      · subst q1
        have q1b : (bits .and .i64 x 1792 == 256) = true := by rw [hq]; rfl
        clear hq
        go_wp2_with fail
        refine (st_remove HT3.out (m % 3) (by omega)).mono ?_
        rintro e w4 ⟨r4, rfl, fs4, S4⟩
        have HT4 := Lib.hid S4
        clear S4 q1b
        go_wp2_with fail
        go_loopw [14, 15] (fun s j w' => ∃ jj : Nat, jj ≤ 3 ∧ j = .int .i64 jj ∧ s = .int .i64 (szs fs4 jj) ∧ St w w' n w1.heap.size fs4) (fun _ j _ => 3 - (intOf j).toNat)
        case atStart => exact ⟨0, by omega, rfl, rfl, HT4.out⟩
        case round =>
          obtain ⟨jj, hjj, rfl, rfl, S5⟩ := hrel
          have HT5 := Lib.hid S5
          have hle := szs_le S5 jj hjj
          clear S5
          by_cases hj3 : jj < 3
          · have hcn : wr.cell? ⟨w1.heap.size, jj, none⟩ = some (.string (n3 jj)) := by
              rw [cell_of HT5.out.names]
              rcases (show jj = 0 ∨ jj = 1 ∨ jj = 2 from by omega) with rfl | rfl | rfl <;> rfl
            have hle2 := szs_le HT5.out (jj + 1) hj3
            have hss : szs fs4 (jj + 1) = szs fs4 jj + sz fs4 jj := rfl
            have hle3 : szs fs4 jj + sz fs4 jj ≤ n := by rw [← hss]; exact hle2
            clear hss hle2
            go_wp2_with fail
            refine (st_size HT5.out jj hj3).mono ?_
            rintro e w6 ⟨r, rfl, hr, E6⟩
            have HT6 := Lib.hid (HT5.out.more E6)
            clear E6 hcn
            go_wp2
            go_roundw
            case rel => exact ⟨jj + 1, by omega, by go_num, by simp only [szs]; go_num, HT6.out⟩
            case measure => simp [intOf]; omega
          · obtain rfl : jj = 3 := by omega
            have hsa := szs_all HT5.out
            have htl := HT5.out.own.disk.roomy
            rw [hsa]
            clear hsa hle
            go_wp2_with fail
            refine (used_yes HT5.out.own.disk).mono ?_
            rintro e w6 ⟨rfl, E6⟩
            have HT6 := Lib.hid (HT5.out.more E6)
            clear E6
            go_wp2
            go_roundw
            case rel => exact ⟨k + 1, fs4, by omega, by omega, by go_num, HT6.out⟩
            case measure => simp [intOf]; omega
      · have q1b : (bits .and .i64 x 1792 == 256) = false := by rw [hq]; simpa using q1
        by_cases q2 : q = 512
        · subst q2
          have q2b : (bits .and .i64 x 1792 == 512) = true := by rw [hq]; rfl
          clear hq q1
          go_wp2_with fail
          refine (st_cut HT3.out (m % 3) kk (by omega)).mono ?_
          rintro e w4 ⟨r4, rfl, fs4, S4⟩
          have HT4 := Lib.hid S4
          clear S4 q1b q2b
          go_wp2_with fail
          go_loopw [14, 15] (fun s j w' => ∃ jj : Nat, jj ≤ 3 ∧ j = .int .i64 jj ∧ s = .int .i64 (szs fs4 jj) ∧ St w w' n w1.heap.size fs4) (fun _ j _ => 3 - (intOf j).toNat)
          case atStart => exact ⟨0, by omega, rfl, rfl, HT4.out⟩
          case round =>
            obtain ⟨jj, hjj, rfl, rfl, S5⟩ := hrel
            have HT5 := Lib.hid S5
            have hle := szs_le S5 jj hjj
            clear S5
            by_cases hj3 : jj < 3
            · have hcn : wr.cell? ⟨w1.heap.size, jj, none⟩ = some (.string (n3 jj)) := by
                rw [cell_of HT5.out.names]
                rcases (show jj = 0 ∨ jj = 1 ∨ jj = 2 from by omega) with rfl | rfl | rfl <;> rfl
              have hle2 := szs_le HT5.out (jj + 1) hj3
              have hss : szs fs4 (jj + 1) = szs fs4 jj + sz fs4 jj := rfl
              have hle3 : szs fs4 jj + sz fs4 jj ≤ n := by rw [← hss]; exact hle2
              clear hss hle2
              go_wp2_with fail
              refine (st_size HT5.out jj hj3).mono ?_
              rintro e w6 ⟨r, rfl, hr, E6⟩
              have HT6 := Lib.hid (HT5.out.more E6)
              clear E6 hcn
              go_wp2
              go_roundw
              case rel => exact ⟨jj + 1, by omega, by go_num, by simp only [szs]; go_num, HT6.out⟩
              case measure => simp [intOf]; omega
            · obtain rfl : jj = 3 := by omega
              have hsa := szs_all HT5.out
              have htl := HT5.out.own.disk.roomy
              rw [hsa]
              clear hsa hle
              go_wp2_with fail
              refine (used_yes HT5.out.own.disk).mono ?_
              rintro e w6 ⟨rfl, E6⟩
              have HT6 := Lib.hid (HT5.out.more E6)
              clear E6
              go_wp2
              go_roundw
              case rel => exact ⟨k + 1, fs4, by omega, by omega, by go_num, HT6.out⟩
              case measure => simp [intOf]; omega
        · have q2b : (bits .and .i64 x 1792 == 512) = false := by rw [hq]; simpa using q2
          clear hq q1 q2
          obtain ⟨cs, t, htz, hmk, hcv⟩ := zeros_str w3 kk hkk'
          have HTZ := Lib.hid htz
          clear htz
          go_wp2_with fail
          have HT3b := Lib.hid (HT3.out.more ((Below.refl w3.heap.size w3).alloc (Nat.le_refl _) (.cells cs 5)))
          refine (st_append HT3b.out (m % 3) (by omega) t (by rw [HTZ.out]; omega)).mono ?_
          rintro e w4 h4
          rw [HTZ.out] at h4
          have hrm := HT3.out.own.disk.roomy
          rcases h4 with ⟨rfl, hfit, fs4, ht4, S4⟩ | ⟨rfl, hfit, S4⟩
          · have HT4a := Lib.hid S4
            have HTT := Lib.hid ht4
            clear S4 ht4 hmk hcv
            go_wp2_with fail
            refine (used_yes HT4a.out.own.disk).mono ?_
            rintro e w4b ⟨rfl, E4⟩
            have HT4 := Lib.hid (HT4a.out.more E4)
            clear E4
            rw [HTT.out]
            go_wp2_with fail
            go_loopw [14, 15] (fun s j w' => ∃ jj : Nat, jj ≤ 3 ∧ j = .int .i64 jj ∧ s = .int .i64 (szs fs4 jj) ∧ St w w' n w1.heap.size fs4) (fun _ j _ => 3 - (intOf j).toNat)
            case atStart => exact ⟨0, by omega, rfl, rfl, HT4.out⟩
            case round =>
              obtain ⟨jj, hjj, rfl, rfl, S5⟩ := hrel
              have HT5 := Lib.hid S5
              have hle := szs_le S5 jj hjj
              clear S5
              by_cases hj3 : jj < 3
              · have hcn : wr.cell? ⟨w1.heap.size, jj, none⟩ = some (.string (n3 jj)) := by
                  rw [cell_of HT5.out.names]
                  rcases (show jj = 0 ∨ jj = 1 ∨ jj = 2 from by omega) with rfl | rfl | rfl <;> rfl
                have hle2 := szs_le HT5.out (jj + 1) hj3
                have hss : szs fs4 (jj + 1) = szs fs4 jj + sz fs4 jj := rfl
                have hle3 : szs fs4 jj + sz fs4 jj ≤ n := by rw [← hss]; exact hle2
                clear hss hle2
                go_wp2_with fail
                refine (st_size HT5.out jj hj3).mono ?_
                rintro e w6 ⟨r, rfl, hr, E6⟩
                have HT6 := Lib.hid (HT5.out.more E6)
                clear E6 hcn
                go_wp2
                go_roundw
                case rel => exact ⟨jj + 1, by omega, by go_num, by simp only [szs]; go_num, HT6.out⟩
                case measure => simp [intOf]; omega
              · obtain rfl : jj = 3 := by omega
                have hsa := szs_all HT5.out
                have htl := HT5.out.own.disk.roomy
                rw [hsa]
                clear hsa hle
                go_wp2_with fail
                refine (used_yes HT5.out.own.disk).mono ?_
                rintro e w6 ⟨rfl, E6⟩
                have HT6 := Lib.hid (HT5.out.more E6)
                clear E6
                go_wp2
                go_roundw
                case rel => exact ⟨k + 1, fs4, by omega, by omega, by go_num, HT6.out⟩
                case measure => simp [intOf]; omega
          · have HT4a := Lib.hid S4
            clear S4 hmk hcv
            go_wp2_with fail
            refine (used_yes HT4a.out.own.disk).mono ?_
            rintro e w4b ⟨rfl, E4⟩
            obtain ⟨fs4, hfs4⟩ : ∃ fs4, fs4 = fs := ⟨_, rfl⟩
            have HT4 : Hid (St w w4b n w1.heap.size fs4) := by rw [hfs4]; exact HT4a.out.more E4
            clear E4 hfs4
            go_wp2_with fail
            go_loopw [14, 15] (fun s j w' => ∃ jj : Nat, jj ≤ 3 ∧ j = .int .i64 jj ∧ s = .int .i64 (szs fs4 jj) ∧ St w w' n w1.heap.size fs4) (fun _ j _ => 3 - (intOf j).toNat)
            case atStart => exact ⟨0, by omega, rfl, rfl, HT4.out⟩
            case round =>
              obtain ⟨jj, hjj, rfl, rfl, S5⟩ := hrel
              have HT5 := Lib.hid S5
              have hle := szs_le S5 jj hjj
              clear S5
              by_cases hj3 : jj < 3
              · have hcn : wr.cell? ⟨w1.heap.size, jj, none⟩ = some (.string (n3 jj)) := by
                  rw [cell_of HT5.out.names]
                  rcases (show jj = 0 ∨ jj = 1 ∨ jj = 2 from by omega) with rfl | rfl | rfl <;> rfl
                have hle2 := szs_le HT5.out (jj + 1) hj3
                have hss : szs fs4 (jj + 1) = szs fs4 jj + sz fs4 jj := rfl
                have hle3 : szs fs4 jj + sz fs4 jj ≤ n := by rw [← hss]; exact hle2
                clear hss hle2
                go_wp2_with fail
                refine (st_size HT5.out jj hj3).mono ?_
                rintro e w6 ⟨r, rfl, hr, E6⟩
                have HT6 := Lib.hid (HT5.out.more E6)
                clear E6 hcn
                go_wp2
                go_roundw
                case rel => exact ⟨jj + 1, by omega, by go_num, by simp only [szs]; go_num, HT6.out⟩
                case measure => simp [intOf]; omega
              · obtain rfl : jj = 3 := by omega
                have hsa := szs_all HT5.out
                have htl := HT5.out.own.disk.roomy
                rw [hsa]
                clear hsa hle
                go_wp2_with fail
                refine (used_yes HT5.out.own.disk).mono ?_
                rintro e w6 ⟨rfl, E6⟩
                have HT6 := Lib.hid (HT5.out.more E6)
                clear E6
                go_wp2
                go_roundw
                case rel => exact ⟨k + 1, fs4, by omega, by omega, by go_num, HT6.out⟩
                case measure => simp [intOf]; omega
    · obtain ⟨b1, b2⟩ : (decide ((k : Int) < (ss.length : Int)) = true → decide ((k : Int) < 200) = false) ∧ True := ⟨fun h => by simp at h ⊢; omega, trivial⟩
      by_cases h1 : k < ss.length
      · have h2 : ¬ k < 200 := fun h => hlt ⟨h1, h⟩
        clear hlt b1 b2
        go_wp2_with fail
        refine (awake _).mono ?_
        rintro e w3 ⟨rfl, hb3⟩
        have HTf := Lib.hid (HT.out.more hb3)
        go_wp2
        go_ret
        exact ⟨rfl, HTf.out.own.below⟩
      · clear hlt b1 b2
        go_wp2_with fail
        refine (awake _).mono ?_
        rintro e w3 ⟨rfl, hb3⟩
        have HTf := Lib.hid (HT.out.more hb3)
        go_wp2
        go_ret
        exact ⟨rfl, HTf.out.own.below⟩
end Go.Proofs.Ytpmalnhlbpdohaa.VdRoom
