/- The references' numbers as bytes: PutVar, PutFixed. -/
import Derived.Test.YtcioejacijkbcaaGreatDoorBtD
import Derived.IntWalk
namespace Go.Proofs.YtcioejacijkbcaaGreatDoor.Rf
open Go.RowKit Go.Maps Go.ChangeMaps Go.WideMaps Go.Proofs.YtcioejacijkbcaaGreatDoor.Su Go.Proofs.YtcioejacijkbcaaGreatDoor.Bt
set_option linter.unusedVariables false
set_option maxRecDepth 100000 in
set_option maxHeartbeats 4000000 in
theorem putVar (W : World) (n : Nat) (hn : n < 2 ^ 63) :
    Calls Tryz.prog 121 #[.int .i64 n] W fun e w' => e = .returned (.tuple #[.string (str (vnum n)), .int .i64 0]) ∧ Below W.heap.size W w' := by
  obtain ⟨N, hN⟩ : ∃ N : Int, N = n := ⟨_, rfl⟩
  have h0 : ¬ N < 0 := by omega
  rw [← hN]
  have HN := Lib.hid hN
  have HL := Lib.hid hn
  clear hN hn
  go_enter Tryz.func121, Tryz.ntmps121
  go_wp2_with fail
  go_loopw [0, 4] (fun u v w' => ∃ (U : Nat) (l : List UInt8), u = .int .i64 U ∧ U ≤ n ∧ l ++ vnum U = vnum n ∧ (l = [] ∨ 1 ≤ U) ∧ U * 128 ^ l.length ≤ n ∧ Bytes w' W.heap.size v l ∧ Below W.heap.size W w') (fun u _ _ => (intOf u).toNat)
  case atStart => exact ⟨n, [], by rw [HN.out], by omega, rfl, .inl rfl, by simp, Bytes.nil _ _, Below.refl _ _⟩
  case round =>
    obtain ⟨U, l, rfl, hU, hl, hone, hpow, hB, hb⟩ := hrel
    have hln : l.length ≤ 9 := by
      rcases hone with rfl | h1
      · simp
      · exact few_bytes (Nat.le_trans (Nat.le_mul_of_pos_left _ h1) hpow) HL.out
    have HPW := Lib.hid hpow
    clear hone hpow
    have hsz := hb.size
    have h63 := HL.out
    have hU63 : (U : Int) ≤ 9223372036854775807 := by omega
    by_cases hlt : U < 128
    · have hlt' : ¬ (127 : Int) < (U : Int) := by omega
      have hbv : bv (UInt8.ofNat U) = .int .u8 U := by unfold bv; rw [UInt8.toNat_ofNat']; congr 1; omega
      have hcl : (wr.alloc (.cells #[.int .u8 U] 5)).cell? ⟨wr.heap.size, 0, none⟩ = some (bv (UInt8.ofNat U)) := by rw [hbv]; exact (cell_of_row _ _ 0 _ _ _ (heap_alloc_last _ _)).trans rfl
      have hw8 : IntKind.u8.wrap (U : Int) = (U : Int) := by rw [IntKind.wrap_u8]; omega
      have HB := Lib.hid hB
      have HC := Lib.hid hcl
      have HE := Lib.hid hl
      have HLN := Lib.hid hln
      have HSZ := Lib.hid hsz
      have HU := Lib.hid hlt
      have hm8 : (U : Int) % 256 = (U : Int) := by omega
      clear hB hcl hl hln hsz h63 hU hlt hbv hU63
      go_wp2_with (at_builtin; refine wpList_append_byte rfl _ _ rfl W.heap.size _ l rfl (HB.out.alloc _) _ (UInt8.ofNat U) rfl HC.out (by have := HLN.out; omega) (le_alloc HSZ.out _) ?_; intro v' w' hB2 hg2 hv2)
      have hcv := hB2.conv
      rw [vnum_small U HU.out] at HE
      rw [HE.out] at hcv
      clear hB2
      go_wp2
      rw [hcv]
      go_wp2
      go_ret2
      exact ⟨rfl, (hb.alloc HSZ.out _).grown hg2 (le_alloc HSZ.out _) (fun k hk => (HB.out.lt k hk).1)⟩
    · have hlt' : (127 : Int) < (U : Int) := by omega
      have hbv : bv (UInt8.ofNat (U % 128 + 128)) = .int .u8 ((U : Int) % 128 + 128) := by unfold bv; rw [UInt8.toNat_ofNat']; congr 1; omega
      have hcl : (wr.alloc (.cells #[.int .u8 ((U : Int) % 128 + 128)] 5)).cell? ⟨wr.heap.size, 0, none⟩ = some (bv (UInt8.ofNat (U % 128 + 128))) := by rw [hbv]; exact (cell_of_row _ _ 0 _ _ _ (heap_alloc_last _ _)).trans rfl
      have HB := Lib.hid hB
      have HC := Lib.hid hcl
      have HE := Lib.hid hl
      have HLN := Lib.hid hln
      have HSZ := Lib.hid hsz
      have HU := Lib.hid hlt
      have HUN := Lib.hid hU
      clear hB hcl hl hln hsz h63 hU hlt hbv
      go_wp2_with (at_builtin; refine wpList_append_byte rfl _ _ rfl W.heap.size _ l rfl (HB.out.alloc _) _ (UInt8.ofNat (U % 128 + 128)) rfl HC.out (by have := HLN.out; omega) (le_alloc HSZ.out _) ?_; intro v' w' hB2 hg2 hv2)
      have HB2 := Lib.hid hB2
      have HG2 := Lib.hid hg2
      clear hB2 hg2 hv2
      go_wp2
      go_roundw
      case rel =>
        refine ⟨U / 128, l ++ [UInt8.ofNat (U % 128 + 128)], by go_num, by have := HUN.out; omega, ?_, .inr (by have := HU.out; omega), ?_, HB2.out, (hb.alloc HSZ.out _).grown HG2.out (le_alloc HSZ.out _) (fun k hk => (HB.out.lt k hk).1)⟩
        · rw [List.append_assoc, List.singleton_append, ← vnum_big U HU.out]; exact HE.out
        · rw [List.length_append, List.length_singleton]; exact pow_next U l.length n HPW.out
      case measure => simp [intOf]; have := HU.out; omega
theorem wraps_i63 (n : Int) (h₀ : 0 ≤ n) (h₁ : n < 2 ^ 63) : IntKind.i64.wrap n = n := IntWalk.i64_in n (by omega)
theorem and255 (m : Nat) (h : m < 2 ^ 63) : bits .and .i64 (m : Int) 255 % 256 = ((m % 256 : Nat) : Int) := by
  have := (bits_nat .i64 63 (by decide) wraps_i63 m 255 h (by decide)).1
  rw [show (255 : Nat) = 2 ^ 8 - 1 from rfl, Nat.and_two_pow_sub_one_eq_mod] at this
  rw [show ((2 ^ 8 - 1 : Nat) : Int) = 255 from rfl] at this
  rw [this]; omega
set_option maxRecDepth 100000 in
set_option maxHeartbeats 4000000 in
theorem putFixed (W : World) (n k : Nat) (h1 : 1 ≤ k) (h8 : k ≤ 8) (hn : n < 2 ^ 63) (hk : n < 256 ^ k) :
    Calls Tryz.prog 87 #[.int .i64 n, .int .i64 k] W fun e w' => e = .returned (.tuple #[.string (str (le n k)), .int .i64 0]) ∧ Below W.heap.size W w' := by
  obtain ⟨N, hN⟩ : ∃ N : Int, N = n := ⟨_, rfl⟩
  obtain ⟨K, hK⟩ : ∃ K : Int, K = k := ⟨_, rfl⟩
  have a1 : ¬ K < 1 := by omega
  have a2 : ¬ 8 < K := by omega
  have a3 : ¬ N < 0 := by omega
  rw [← hN, ← hK]
  have HN := Lib.hid hN
  have HK := Lib.hid hK
  have HNL := Lib.hid hn
  clear hN hK hn
  have hq0 : K < 8 → ¬ 0 < N / 2 ^ (8 * K).toNat := fun h => by
    have e : (2 : Int) ^ (8 * K).toNat = ((256 ^ k : Nat) : Int) := by
      rw [HK.out, show (8 * (k : Int)).toNat = 8 * k from by omega]; exact pow8 k
    rw [e, HN.out]
    have : (n : Int) / ((256 ^ k : Nat) : Int) = 0 := by
      rw [← Int.natCast_ediv, Nat.div_eq_of_lt hk]; rfl
    omega
  by_cases h88 : K < 8
  all_goals
    (try have hq := hq0 h88)
    clear hq0
    go_enter Tryz.func87, Tryz.ntmps87
    go_wp2_with fail
    go_loopw [6, 7] (fun v i w' => ∃ j : Nat, j ≤ k ∧ i = .int .i64 j ∧ Bytes w' W.heap.size v ((le n k).take j) ∧ Below W.heap.size W w') (fun _ i _ => k - (intOf i).toNat)
    case atStart => exact ⟨0, by omega, rfl, Bytes.nil _ _, Below.refl _ _⟩
    case round =>
      obtain ⟨j, hj, rfl, hB, hb⟩ := hrel
      have hsz := hb.size
      have HB := Lib.hid hB
      have HSZ := Lib.hid hsz
      clear hB hsz
      by_cases hlt : j < k
      · have hlt' : (j : Int) < K := by rw [HK.out]; omega
        have hgt : (le n k).take (j + 1) = (le n k).take j ++ [UInt8.ofNat (n / 256 ^ j % 256)] := by
          rw [List.take_add_one, le_get n k j hlt]; rfl
        have hval : bits .and .i64 (N / 2 ^ (8 * j)) 255 % 256 = ((n / 256 ^ j % 256 : Nat) : Int) := by
          have e : N / 2 ^ (8 * j) = ((n / 256 ^ j : Nat) : Int) := by rw [HN.out, pow8 j, Int.natCast_ediv]
          rw [e]; exact and255 _ (Nat.lt_of_le_of_lt (Nat.div_le_self _ _) HNL.out)
        have hbv : bv (UInt8.ofNat (n / 256 ^ j % 256)) = .int .u8 (bits .and .i64 (N / 2 ^ (8 * j)) 255 % 256) := by
          rw [hval]; unfold bv; rw [UInt8.toNat_ofNat']; congr 1; omega
        have hcl : (wr.alloc (.cells #[.int .u8 (bits .and .i64 (N / 2 ^ (8 * j)) 255 % 256)] 5)).cell? ⟨wr.heap.size, 0, none⟩ = some (bv (UInt8.ofNat (n / 256 ^ j % 256))) := by rw [hbv]; exact (cell_of_row _ _ 0 _ _ _ (heap_alloc_last _ _)).trans rfl
        have HC := Lib.hid hcl
        have HGT := Lib.hid hgt
        clear hcl hbv hgt hval
        go_wp2_with (at_builtin; refine wpList_append_byte rfl _ _ rfl W.heap.size _ ((le n k).take j) rfl (HB.out.alloc _) _ (UInt8.ofNat (n / 256 ^ j % 256)) rfl HC.out (by rw [List.length_take]; omega) (le_alloc HSZ.out _) ?_; intro v' w' hB2 hg2 hv2)
        have HB2 := Lib.hid hB2
        have HG2 := Lib.hid hg2
        clear hB2 hg2 hv2
        go_wp2
        go_roundw
        case rel =>
          exact ⟨j + 1, by omega, by go_num, by rw [HGT.out]; exact HB2.out, (hb.alloc HSZ.out _).grown HG2.out (le_alloc HSZ.out _) (fun k hk => (HB.out.lt k hk).1)⟩
        case measure => simp [intOf]; omega
      · have hlt' : ¬ (j : Int) < K := by rw [HK.out]; omega
        have hall : (le n k).take j = le n k := List.take_of_length_le (by rw [le_length]; omega)
        have hcv := HB.out.conv
        rw [hall] at hcv
        go_wp2
        go_ret2
        exact ⟨rfl, hb⟩
end Go.Proofs.YtcioejacijkbcaaGreatDoor.Rf
