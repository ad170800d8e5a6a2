/- The references' sum (CRC-32C), bit by bit; numbers once more. -/
import Derived.Test.YtcioejacijkbcaaGreatDoorRfA
import Derived.LoopTactic
namespace Go.Proofs.YtcioejacijkbcaaGreatDoor.Rf
open Go.RowKit Go.Maps Go.ChangeMaps Go.WideMaps Go.Proofs.YtcioejacijkbcaaGreatDoor.Su Go.Proofs.YtcioejacijkbcaaGreatDoor.Bt
set_option linter.unusedVariables false
theorem bit1_xor (a b : Nat) : bit1 (a ^^^ b) = bit1 a ^^^ bit1 b := by
  unfold bit1
  have h1 : (a ^^^ b) / 2 = (a / 2) ^^^ (b / 2) := by
    have := Nat.shiftRight_xor_distrib (a := a) (b := b) (i := 1)
    simpa [Nat.shiftRight_eq_div_pow] using this
  have h2 : (a ^^^ b) % 2 = (a % 2) ^^^ (b % 2) := by
    have := Nat.xor_mod_two_pow (a := a) (b := b) (n := 1)
    simpa using this
  rw [h1, h2]
  have h3 : 2197175160 * ((a % 2) ^^^ (b % 2)) = (2197175160 * (a % 2)) ^^^ (2197175160 * (b % 2)) := by
    have ha : a % 2 = 0 ∨ a % 2 = 1 := by omega
    have hb : b % 2 = 0 ∨ b % 2 = 1 := by omega
    rcases ha with ha | ha <;> rcases hb with hb | hb <;> rw [ha, hb] <;> rfl
  rw [h3]
  ac_rfl
theorem bitn_xor (n a b : Nat) : bitn n (a ^^^ b) = bitn n a ^^^ bitn n b := by
  induction n generalizing a b with
  | zero => rfl
  | succ n ih => simp only [bitn]; rw [← bit1_xor, ih]
theorem bitn_high (n k x : Nat) : bitn n (2 ^ (n + k) * x) = 2 ^ k * x := by
  induction n generalizing k with
  | zero => rw [Nat.zero_add]; rfl
  | succ n ih =>
    simp only [bitn]
    rw [show n + 1 + k = n + (k + 1) from by omega, ih (k + 1)]
    unfold bit1
    rw [Nat.pow_succ, Nat.mul_comm (2 ^ k) 2, Nat.mul_assoc]
    have h1 : 2 * (2 ^ k * x) / 2 = 2 ^ k * x := by omega
    have h2 : 2 * (2 ^ k * x) % 2 = 0 := by omega
    rw [h1, h2]; simp
theorem low_high (c : Nat) : c = (2 ^ 8 * (c / 256)) ^^^ (c % 256) := by
  have h := Nat.two_pow_add_eq_or_of_lt (i := 8) (b := c % 256) (show c % 256 < 2 ^ 8 by omega) (c / 256)
  have h2 : c = 2 ^ 8 * (c / 256) + c % 256 := by omega
  rw [h] at h2
  have h3 : (2 ^ 8 * (c / 256)) ||| (c % 256) = (2 ^ 8 * (c / 256)) ^^^ (c % 256) := by
    apply Nat.eq_of_testBit_eq
    intro i
    rw [Nat.testBit_or, Nat.testBit_xor]
    by_cases hi : i < 8
    · have : (2 ^ 8 * (c / 256)).testBit i = false := by rw [Nat.testBit_two_pow_mul]; simp; omega
      rw [this]; simp
    · have : (c % 256).testBit i = false := Nat.testBit_lt_two_pow (Nat.lt_of_lt_of_le (show c % 256 < 2 ^ 8 by omega) (Nat.pow_le_pow_right (by decide) (by omega)))
      rw [this]; simp
  rw [h3] at h2; exact h2
/-- a byte's share, bit by bit -/
theorem crcStep_bits (c : Nat) (b : UInt8) : crcStep c b = bitn 8 (c ^^^ b.toNat) := by
  unfold crcStep tab
  conv => rhs; rw [low_high c, Nat.xor_assoc, bitn_xor]
  have h := bitn_high 8 0 (c / 256)
  rw [Nat.add_zero, Nat.pow_zero, Nat.one_mul] at h
  rw [h, Nat.xor_comm]
set_option maxRecDepth 100000 in
set_option maxHeartbeats 4000000 in
theorem more (W : World) (c0 : Nat) (s : ByteArray) (hc : c0 < 2 ^ 32) (hs : s.size ≤ 1099511627776) :
    Calls Tryz.prog 88 #[.int .i64 c0, .string s] W fun e w' => e = .returned (.int .i64 (crcGo c0 s.data.toList)) ∧ W = w' := by
  obtain ⟨R, hR⟩ : ∃ R : Int, R = crcGo c0 s.data.toList := ⟨_, rfl⟩
  obtain ⟨C, hC⟩ : ∃ C : Int, C = c0 := ⟨_, rfl⟩
  rw [← hR, ← hC]
  have HR := Lib.hid hR
  have HC := Lib.hid hC
  have HLT := Lib.hid hc
  clear hR hC hc
  go_enter Tryz.func88, Tryz.ntmps88
  go_wp2_with fail
  go_loopw [0, 5] (fun v i w' => ∃ k : Nat, k ≤ s.size ∧ i = .int .i64 k ∧ v = .int .i64 (crcGo c0 (s.data.toList.take k)) ∧ w' = W) (fun _ i _ => s.size - (intOf i).toNat)
  case atStart => exact ⟨0, by omega, rfl, by rw [HC.out]; rfl, rfl⟩
  case round =>
    obtain ⟨k, hk, rfl, rfl, rfl⟩ := hrel
    by_cases hlt : k < s.size
    · have hlt' : (k : Int) < (s.size : Int) := by omega
      have hjl : k < s.data.toList.length := by rw [← size_data]; exact hlt
      have hst : crcGo c0 (s.data.toList.take (k + 1)) = bitn 8 (crcGo c0 (s.data.toList.take k) ^^^ (s[k]'hlt).toNat) := by
        rw [crcGo_take c0 s.data.toList k hjl, crcStep_bits]; rfl
      have hg := crcGo_lt (s.data.toList.take k) c0 HLT.out
      generalize hG : crcGo c0 (s.data.toList.take k) = G at *
      have hbt := UInt8.toNat_lt (s[k]'hlt)
      have hx : bits .xor .i64 (G : Int) ((s[k]'hlt).toNat : Int) = ((G ^^^ (s[k]'hlt).toNat : Nat) : Int) :=
        bits_xor .i64 63 (by decide) wraps_i63 G (s[k]'hlt).toNat (by omega) (by omega)
      have hxl : G ^^^ (s[k]'hlt).toNat < 2 ^ 32 := Nat.xor_lt_two_pow (n := 32) hg (by omega)
      have HST := Lib.hid hst
      clear hst hG
      go_wp2_with fail
      generalize hX : G ^^^ (s[k]'hlt).toNat = X at *
      have HX := Lib.hid hX
      clear hX hx
      obtain ⟨wo, hwo⟩ : ∃ wo : World, wo = wr := ⟨_, rfl⟩
      go_loopw [0, 6] (fun v i w' => ∃ j : Nat, j ≤ 8 ∧ i = .int .i64 j ∧ v = .int .i64 (bitn j X) ∧ w' = wo) (fun _ i _ => 8 - (intOf i).toNat)
      case atStart => exact ⟨0, by omega, rfl, rfl, hwo.symm⟩
      case round =>
        obtain ⟨j, hj, rfl, rfl, hwr⟩ := hrel
        subst hwr
        by_cases hl8 : j < 8
        · have hl8' : (j : Int) < 8 := by omega
          have hy := bitn_lt j X hxl
          have hyn : bitn (j + 1) X = bit1 (bitn j X) := rfl
          generalize hY : bitn j X = Y at *
          have HY := Lib.hid hY
          have hy63 : (Y : Int) < 4294967296 := by omega
          have hy0 : (0 : Int) ≤ (Y : Int) := by omega
          by_cases hodd : Y % 2 = 1
          · have hodd' : ((Y : Int) % 2 == 1) = true := beq_iff_eq.2 (by omega)
            have hxx : bits .xor .i64 ((Y : Int) / 2) 2197175160 = ((Y / 2 ^^^ 2197175160 : Nat) : Int) :=
              bits_xor .i64 63 (by decide) wraps_i63 (Y / 2) 2197175160 (by omega) (by decide)
            have he : bit1 Y = Y / 2 ^^^ 2197175160 := by unfold bit1; rw [hodd]
            have HE := Lib.hid he
            have HYN := Lib.hid hyn
            clear hyn hY he hodd
            go_wp2_with fail
            go_roundw
            case rel => exact ⟨j + 1, by omega, by go_num, by rw [HYN.out, HE.out], hwo.symm⟩
            case measure => simp [intOf]; omega
          · have hodd' : ((Y : Int) % 2 == 1) = false := beq_eq_false_iff_ne.2 (by omega)
            have he : bit1 Y = Y / 2 := by unfold bit1; rw [show Y % 2 = 0 from by omega]; simp
            have HE := Lib.hid he
            have HYN := Lib.hid hyn
            clear hyn hY he hodd
            go_wp2_with fail
            go_roundw
            case rel => exact ⟨j + 1, by omega, by go_num, by rw [HYN.out, HE.out]; go_num, hwo.symm⟩
            case measure => simp [intOf]; omega
        · obtain rfl : j = 8 := by omega
          have hl8' : ¬ (8 : Int) < 8 := by omega
          clear hl8
          go_wp2_with fail
          go_roundw
          case rel => exact ⟨k + 1, hlt, by go_num, by rw [HST.out], trivial⟩
          case measure => simp [intOf]; omega
    · obtain rfl : k = s.size := by omega
      have hlt' : ¬ (s.size : Int) < (s.size : Int) := by omega
      have hall : s.data.toList.take s.size = s.data.toList := List.take_of_length_le (by rw [← size_data]; exact Nat.le_refl _)
      rw [hall]
      go_wp2
      go_ret
      exact ⟨by rw [HR.out]; rfl, rfl⟩
set_option maxRecDepth 100000 in
theorem Crc (W : World) (s : ByteArray) (hs : s.size ≤ 1099511627776) :
    Calls Tryz.prog 54 #[.string s] W fun e w' => e = .returned (.int .i64 (crc s.data.toList)) ∧ W = w' := by
  have HM := Lib.hid (more W 4294967295 s (by decide) hs)
  have hg := crcGo_lt s.data.toList 4294967295 (by decide)
  have hx : bits .xor .i64 4294967295 (crcGo 4294967295 s.data.toList : Int) = ((4294967295 ^^^ crcGo 4294967295 s.data.toList : Nat) : Int) :=
    bits_xor .i64 63 (by decide) wraps_i63 4294967295 (crcGo 4294967295 s.data.toList) (by decide) (by omega)
  have HX := Lib.hid hx
  clear hx
  go_enter Tryz.func54, Tryz.ntmps54
  go_wp2_with fail
  refine HM.out.mono ?_
  rintro e w1 ⟨rfl, rfl⟩
  go_wp2
  go_ret
  exact ⟨by rw [show crc s.data.toList = 4294967295 ^^^ crcGo 4294967295 s.data.toList from rfl, ← HX.out]; rfl, rfl⟩
set_option maxRecDepth 100000 in
theorem number (W : World) (N : Int) (h0 : 0 ≤ N) (hn : N < 9223372036854775808) :
    Calls Tryz.prog 86 #[.int .i64 N] W fun e w' => e = .returned (.string (str (vnum N.toNat))) ∧ Below W.heap.size W w' := by
  have h := putVar W N.toNat (by omega)
  rw [show ((N.toNat : Nat) : Int) = N from by omega] at h
  have HP := Lib.hid h
  clear h hn
  go_enter Tryz.func86, Tryz.ntmps86
  go_wp2_with fail
  refine HP.out.mono ?_
  rintro e w1 ⟨rfl, hb1⟩
  go_wp2
  go_ret
  exact ⟨rfl, hb1⟩
set_option maxRecDepth 100000 in
theorem fixed (W : World) (N K : Int) (k : Nat) (hK : K = k) (h1 : 1 ≤ k) (h8 : k ≤ 8) (h0 : 0 ≤ N) (h63 : N < 9223372036854775808) (hN : N.toNat < 256 ^ k) :
    Calls Tryz.prog 53 #[.int .i64 N, .int .i64 K] W fun e w' => e = .returned (.string (str (le N.toNat k))) ∧ Below W.heap.size W w' := by
  have h := putFixed W N.toNat k h1 h8 (by omega) hN
  rw [show ((N.toNat : Nat) : Int) = N from by omega, ← hK] at h
  have HP := Lib.hid h
  clear h h63 hN hK
  go_enter Tryz.func53, Tryz.ntmps53
  go_wp2_with fail
  refine HP.out.mono ?_
  rintro e w1 ⟨rfl, hb1⟩
  go_wp2
  go_ret
  exact ⟨rfl, hb1⟩
end Go.Proofs.YtcioejacijkbcaaGreatDoor.Rf
