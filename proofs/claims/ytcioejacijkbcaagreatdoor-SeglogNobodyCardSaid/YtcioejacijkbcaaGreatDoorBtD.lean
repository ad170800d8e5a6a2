/- bits: Var. -/
import Derived.Test.YtcioejacijkbcaaGreatDoorBtC
namespace Go.Proofs.YtcioejacijkbcaaGreatDoor.Bt
open Go.RowKit Go.Maps Go.ChangeMaps Go.WideMaps Go.Proofs.YtcioejacijkbcaaGreatDoor.Su
set_option linter.unusedVariables false
/-- the number that bytes begin with, how many bytes, and why there is none -/
def varT : Nat → List UInt8 → Nat × Nat × Int
  | 0, _ => (0, 0, 10)
  | f + 1, [] => (0, 0, 5)
  | f + 1, b :: l =>
    if 128 ≤ b.toNat then
      (if (varT f l).2.2 = 0 then (b.toNat % 128 + 128 * (varT f l).1, (varT f l).2.1 + 1, 0) else (0, 0, (varT f l).2.2))
    else if b.toNat = 0 ∧ f < 8 then (0, 0, 10) else (b.toNat, 1, 0)
theorem varT_fail : ∀ (f : Nat) (l : List UInt8), (varT f l).2.2 ≠ 0 → (varT f l) = (0, 0, (varT f l).2.2)
  | 0, _, _ => rfl
  | f + 1, [], _ => rfl
  | f + 1, b :: l, h => by
    simp only [varT] at h ⊢
    split
    · rename_i h1
      rw [if_pos h1] at h
      split
      · rename_i h2; rw [if_pos h2] at h; exact absurd rfl h
      · rfl
    · rename_i h1
      rw [if_neg h1] at h
      split
      · rfl
      · rename_i h2; rw [if_neg h2] at h; exact absurd rfl h
theorem varT_vnum : ∀ (f n : Nat) (l : List UInt8), n < 128 ^ f → (f = 9 ∨ n ≠ 0) → f ≤ 9 → varT f (vnum n ++ l) = (n, (vnum n).length, 0)
  | 0, n, l, h, h0, _ => by simp at h; subst h; simp at h0
  | f + 1, n, l, h, h0, h9 => by
    by_cases hn : n < 128
    · rw [vnum_small n hn]
      have e : (UInt8.ofNat n).toNat = n := by rw [UInt8.toNat_ofNat']; omega
      simp only [List.singleton_append, varT, e, List.length_singleton]
      rw [if_neg (by omega), if_neg (by omega)]
    · rw [vnum_big n hn]
      have e : (UInt8.ofNat (n % 128 + 128)).toNat = n % 128 + 128 := by rw [UInt8.toNat_ofNat']; omega
      have ih := varT_vnum f (n / 128) l (by rw [Nat.pow_succ] at h; exact Nat.div_lt_of_lt_mul (by rw [Nat.mul_comm]; exact h)) (.inr (by omega)) (by omega)
      simp only [List.cons_append, varT, e, ih, List.length_cons, if_true]
      rw [if_pos (by omega)]
      simp only [Prod.mk.injEq, and_true]
      omega
theorem varT_lt : ∀ (f : Nat) (l : List UInt8), (varT f l).1 < 128 ^ f ∧ (varT f l).2.1 ≤ l.length
  | 0, _ => by simp [varT]
  | f + 1, [] => by simp only [varT]; exact ⟨Nat.pow_pos (by decide), by simp⟩
  | f + 1, b :: l => by
    have ih := varT_lt f l
    have hp : 0 < 128 ^ f := Nat.pow_pos (by decide)
    simp only [varT, List.length_cons]
    rw [Nat.pow_succ]
    split
    · split
      · simp only; omega
      · simp only; omega
    · split
      · simp only; omega
      · simp only; omega
theorem or_shift7 (V j : Nat) (b : Nat) (hj : j ≤ 8) (hV : V < 128 ^ j) (hb : b < 128) :
    bits .or .u64 (V : Int) (IntKind.u64.wrap ((b : Int) * 2 ^ (7 * j))) = ((V + 128 ^ j * b : Nat) : Int) := by
  have e128 : (128 : Nat) ^ j = 2 ^ (7 * j) := by rw [Nat.pow_mul]
  have hle : 2 ^ (7 * j) * 128 ≤ 2 ^ 63 := by
    rw [show (128 : Nat) = 2 ^ 7 from rfl, ← Nat.pow_add]
    exact Nat.pow_le_pow_right (by decide) (by omega)
  have hlt : 2 ^ (7 * j) * b < 2 ^ 64 := by
    have : 2 ^ (7 * j) * b < 2 ^ (7 * j) * 128 := Nat.mul_lt_mul_of_pos_left hb (Nat.two_pow_pos _)
    omega
  have hm : (b : Int) * 2 ^ (7 * j) = ((2 ^ (7 * j) * b : Nat) : Int) := by
    rw [Int.natCast_mul, Int.natCast_pow, Int.mul_comm]; rfl
  have hlt0 : 2 ^ (7 * j) ≤ 2 ^ 64 := by have := Nat.two_pow_pos (7 * j); omega
  rw [hm, wraps_u64 _ (Int.natCast_nonneg _) (by exact_mod_cast hlt)]
  rw [(bits_nat .u64 64 (by decide) wraps_u64 V (2 ^ (7 * j) * b) (by rw [e128] at hV; omega) hlt).2]
  rw [e128] at hV ⊢
  rw [Nat.or_comm, ← Nat.two_pow_add_eq_or_of_lt hV, Nat.add_comm]
/-- what the first bytes hold -/
def num7 : List UInt8 → Nat
  | [] => 0
  | b :: l => b.toNat % 128 + 128 * num7 l
theorem num7_append (a b : List UInt8) : num7 (a ++ b) = num7 a + 128 ^ a.length * num7 b := by
  induction a with
  | nil => simp [num7]
  | cons x a ih => simp only [List.cons_append, num7, ih, List.length_cons, Nat.pow_succ]; rw [Nat.mul_add, Nat.mul_comm (128 ^ a.length) 128, Nat.mul_assoc]; omega
theorem num7_lt (l : List UInt8) : num7 l < 128 ^ l.length := by
  induction l with
  | nil => simp [num7]
  | cons x l ih => simp only [num7, List.length_cons, Nat.pow_succ]; omega
/-- joined with what is ahead -/
def comb (u k : Nat) (r : Nat × Nat × Int) : Nat × Nat × Int := if r.2.2 = 0 then (u + 128 ^ k * r.1, k + r.2.1, 0) else (0, 0, r.2.2)
theorem comb_ok (u k a b : Nat) : comb u k (a, b, 0) = (u + 128 ^ k * a, k + b, 0) := rfl
theorem comb_no (u k a b : Nat) (e : Int) (h : e ≠ 0) : comb u k (a, b, e) = (0, 0, e) := by unfold comb; rw [if_neg h]
/-- behind bytes that all go on -/
theorem varT_step (l : List UInt8) : ∀ (k f : Nat), k ≤ l.length → (∀ b ∈ l.take k, 128 ≤ b.toNat) → varT (f + k) l = comb (num7 (l.take k)) k (varT f (l.drop k)) := by
  unfold comb
  induction l with
  | nil =>
    intro k f hk h
    obtain rfl : k = 0 := by simpa using hk
    simp only [List.take_nil, List.drop_nil, num7, Nat.zero_add, Nat.pow_zero, Nat.one_mul, Nat.add_zero]
    split
    · rename_i h; rw [← h]
    · rename_i h; exact varT_fail f [] h
  | cons b l ih =>
    intro k f hk h
    cases k with
    | zero =>
      simp only [List.take_zero, List.drop_zero, num7, Nat.zero_add, Nat.pow_zero, Nat.one_mul, Nat.add_zero]
      split
      · rename_i h; rw [← h]
      · rename_i h; exact varT_fail f _ h
    | succ k =>
      have hb : 128 ≤ b.toNat := h b (by simp)
      have := ih k f (by simpa using hk) (fun x hx => h x (by simp [hx]))
      rw [show f + (k + 1) = (f + k) + 1 from rfl]
      simp only [varT, if_pos hb, List.take_succ_cons, List.drop_succ_cons, num7, this, Nat.pow_succ]
      by_cases h0 : (varT f (l.drop k)).2.2 = 0
      · simp only [if_pos h0, if_true, Prod.mk.injEq, and_true]
        refine ⟨?_, by omega⟩
        rw [Nat.mul_add, Nat.mul_comm (128 ^ k) 128, Nat.mul_assoc]; omega
      · simp only [if_neg h0]
set_option maxRecDepth 100000 in
set_option maxHeartbeats 4000000 in
theorem var_any (W : World) (s : ByteArray) (hsz : s.size ≤ 1099511627776) (v n : Nat) (er : Int) (hv : varT 9 s.data.toList = (v, n, er)) :
    Calls Tryz.prog 97 #[.string s] W fun e w' => e = .returned (.tuple #[.int .i64 v, .int .i64 n, .int .i64 er]) ∧ W = w' := by
  obtain ⟨V, hV⟩ : ∃ V : Int, V = v := ⟨_, rfl⟩
  obtain ⟨N, hN⟩ : ∃ N : Int, N = n := ⟨_, rfl⟩
  rw [← hV, ← hN]
  have HV := Lib.hid hV
  have HN := Lib.hid hN
  have HR := Lib.hid hv
  clear hv hV hN
  go_enter Tryz.func97, Tryz.ntmps97
  go_wp2_with fail
  go_loopw [5, 7] (fun u i w' => ∃ k : Nat, k ≤ 9 ∧ k ≤ s.size ∧ i = .int .i64 k ∧ u = .int .u64 (num7 (s.data.toList.take k)) ∧ (∀ b ∈ s.data.toList.take k, 128 ≤ b.toNat) ∧ w' = W) (fun _ i _ => 9 - (intOf i).toNat)
  case atStart => exact ⟨0, by omega, by omega, rfl, rfl, by simp, rfl⟩
  case round =>
    obtain ⟨k, hk, hks, rfl, rfl, hall, rfl⟩ := hrel
    have hst := varT_step s.data.toList k (9 - k) (by rw [← size_data]; exact hks) hall
    rw [show 9 - k + k = 9 from by omega, HR.out] at hst
    have HST := Lib.hid hst
    have HALL := Lib.hid hall
    clear hst hall
    by_cases h9 : k < 9
    · have h9' : (k : Int) < 9 := by omega
      by_cases hend : k = s.size
      · have hend' : ((k : Int) == (s.size : Int)) = true := beq_iff_eq.2 (by omega)
        have hx := HST.out
        rw [List.drop_eq_nil_of_le (by rw [← size_data]; omega), show 9 - k = (8 - k) + 1 from by omega, show varT (8 - k + 1) [] = (0, 0, 5) from rfl, comb_no _ _ _ _ _ (by decide)] at hx
        simp only [Prod.mk.injEq] at hx
        obtain ⟨rfl, rfl, rfl⟩ := hx
        clear hend
        go_wp2
        go_ret3
        exact ⟨by rw [HV.out, HN.out]; rfl, rfl⟩
      · have hlt : k < s.size := by omega
        have hend' : ((k : Int) == (s.size : Int)) = false := beq_eq_false_iff_ne.2 (by omega)
        have hlt' : (k : Int) < (s.size : Int) := by omega
        have hjl : k < s.data.toList.length := by rw [← size_data]; exact hlt
        have hs7 : num7 (s.data.toList.take k) < 128 ^ k := by have := num7_lt (s.data.toList.take k); rwa [List.length_take_of_le (by omega)] at this
        have hget : s.data.toList[k] = s[k]'hlt := rfl
        have hdr : s.data.toList.drop k = s[k]'hlt :: s.data.toList.drop (k + 1) := by rw [List.drop_eq_getElem_cons hjl, hget]
        have hn1 : num7 (s.data.toList.take (k + 1)) = num7 (s.data.toList.take k) + 128 ^ k * ((s[k]'hlt).toNat % 128) := by
          rw [List.take_succ_eq_append_getElem hjl, num7_append, List.length_take_of_le (by omega), hget]; simp [num7]
        have hand : bits .and .u8 ((s[k]'hlt).toNat : Int) 127 = (((s[k]'hlt).toNat % 128 : Nat) : Int) := by
          have hb := UInt8.toNat_lt (s[k]'hlt)
          have := (bits_nat .u8 8 (by decide) wraps_u8 (s[k]'hlt).toNat 127 (by omega) (by decide)).1
          rw [show (127 : Nat) = 2 ^ 7 - 1 from rfl, Nat.and_two_pow_sub_one_eq_mod] at this
          exact this
        have hor := or_shift7 (num7 (s.data.toList.take k)) k ((s[k]'hlt).toNat % 128) (by omega) hs7 (by omega)
        have hin : IntKind.u64.wrap (bits .and .u8 ((s[k]'hlt).toNat : Int) 127) = (((s[k]'hlt).toNat % 128 : Nat) : Int) := by
          rw [hand, wraps_u64 _ (by omega) (by omega)]
        have hor' : bits .or .u64 (num7 (s.data.toList.take k) : Int) (IntKind.u64.wrap (IntKind.u64.wrap (bits .and .u8 ((s[k]'hlt).toNat : Int) 127) * 2 ^ (7 * k))) = (num7 (s.data.toList.take (k + 1)) : Int) := by rw [hin, hn1]; exact hor
        have hlt7 : num7 (s.data.toList.take (k + 1)) < 128 ^ 9 := by
          have := num7_lt (s.data.toList.take (k + 1)); rw [List.length_take_of_le (by omega)] at this
          exact Nat.lt_of_lt_of_le this (Nat.pow_le_pow_right (by decide) (by omega))
        have HL7 := Lib.hid hlt7
        have HN1 := Lib.hid hn1
        have HDR := Lib.hid hdr
        have HG := Lib.hid hget
        generalize hX : ((num7 (s.data.toList.take (k + 1)) : Nat) : Int) = X at hor'
        have HX := Lib.hid hX
        have hw64 : wrap64 X = X := by have := HL7.out; have := HX.out; unfold wrap64; omega
        have hbt := UInt8.toNat_lt (s[k]'hlt)
        clear hlt7 hn1 hdr hget hX hand hor hin hs7 hend
        by_cases hb : 128 ≤ (s[k]'hlt).toNat
        · have hb' : (128 : Int) ≤ ((s[k]'hlt).toNat : Int) := by omega
          go_wp2
          go_roundw
          case rel =>
            refine ⟨k + 1, by omega, by omega, by go_num, by rw [HX.out], ?_, trivial⟩
            intro b hbm
            rw [List.take_succ_eq_append_getElem hjl, List.mem_append] at hbm
            rcases hbm with hbm | hbm
            · exact HALL.out b hbm
            · simp only [List.mem_singleton] at hbm; rw [hbm, HG.out]; exact hb
          case measure => simp [intOf]; omega
        · have hb' : ¬ (128 : Int) ≤ ((s[k]'hlt).toNat : Int) := by omega
          have hx := HST.out
          rw [show 9 - k = (8 - k) + 1 from by omega] at hx
          by_cases hz : (s[k]'hlt).toNat = 0
          · by_cases hk0 : 0 < k
            · rw [show varT (8 - k + 1) (s.data.toList.drop k) = (0, 0, 10) from by rw [HDR.out]; simp only [varT]; rw [if_neg hb, if_pos ⟨hz, by omega⟩], comb_no _ _ _ _ _ (by decide)] at hx
              simp only [Prod.mk.injEq] at hx
              obtain ⟨rfl, rfl, rfl⟩ := hx
              have hz' : (((s[k]'hlt).toNat : Int) == 0) = true := by rw [hz]; rfl
              have hk0' : (0 : Int) < (k : Int) := by omega
              clear hz
              go_wp2
              go_ret3
              exact ⟨by rw [HV.out, HN.out]; rfl, rfl⟩
            · rw [show varT (8 - k + 1) (s.data.toList.drop k) = ((s[k]'hlt).toNat, 1, 0) from by rw [HDR.out]; simp only [varT]; rw [if_neg hb, if_neg (fun h => by omega)], comb_ok] at hx
              simp only [Prod.mk.injEq] at hx
              have HXX := Lib.hid hx
              have hz' : (((s[k]'hlt).toNat : Int) == 0) = true := by rw [hz]; rfl
              have hk0' : ¬ (0 : Int) < (k : Int) := by omega
              have hm1 : (s[k]'hlt).toNat % 128 = (s[k]'hlt).toNat := by omega
              have HM := Lib.hid hm1
              clear hz hx hm1
              go_wp2
              go_ret3
              obtain ⟨q1, q2, q3⟩ := HXX.out
              refine ⟨?_, rfl⟩
              have e1 : V = X := by rw [HV.out, q1, ← HX.out, HN1.out, HM.out]
              have e2 : N = (k : Int) + 1 := by rw [HN.out, q2]; omega
              rw [e1, e2, q3]; rfl
          · rw [show varT (8 - k + 1) (s.data.toList.drop k) = ((s[k]'hlt).toNat, 1, 0) from by rw [HDR.out]; simp only [varT]; rw [if_neg hb, if_neg (fun h => hz h.1)], comb_ok] at hx
            simp only [Prod.mk.injEq] at hx
            have HXX := Lib.hid hx
            have hz' : (((s[k]'hlt).toNat : Int) == 0) = false := beq_eq_false_iff_ne.2 (by omega)
            have hm1 : (s[k]'hlt).toNat % 128 = (s[k]'hlt).toNat := by omega
            have HM := Lib.hid hm1
            clear hz hx hm1
            go_wp2
            go_ret3
            obtain ⟨q1, q2, q3⟩ := HXX.out
            refine ⟨?_, rfl⟩
            have e1 : V = X := by rw [HV.out, q1, ← HX.out, HN1.out, HM.out]
            have e2 : N = (k : Int) + 1 := by rw [HN.out, q2]; omega
            rw [e1, e2, q3]; rfl
    · obtain rfl : k = 9 := by omega
      have hx := HST.out
      rw [show varT (9 - 9) (s.data.toList.drop 9) = (0, 0, 10) from rfl, comb_no _ _ _ _ _ (by decide)] at hx
      simp only [Prod.mk.injEq] at hx
      obtain ⟨rfl, rfl, rfl⟩ := hx
      clear h9
      go_wp2
      go_ret3
      exact ⟨by rw [HV.out, HN.out]; rfl, rfl⟩
end Go.Proofs.YtcioejacijkbcaaGreatDoor.Bt
