/- The references' head of a batch; where batches end; which one has an offset. -/
import Derived.Test.YtnhemmjbodhjeaaGreatSgQ
import Derived.Deep.QuietTactic
import Derived.BigQuiet
namespace Go.Proofs.YtnhemmjbodhjeaaGreat.Rf
open Go.RowKit Go.Maps Go.ChangeMaps Go.WideMaps Go.Proofs.YtnhemmjbodhjeaaGreat.Su Go.Proofs.YtnhemmjbodhjeaaGreat.Bt
set_option linter.unusedVariables false
theorem num_top (l : List UInt8) (h : num (l.take 8) < 2 ^ 63) (hl : 7 < l.length) : l[7].toNat ≤ 127 := by
  rw [num_take l 7 hl] at h
  have : 256 ^ 7 * 128 = 2 ^ 63 := by decide
  rcases Nat.lt_or_ge l[7].toNat 128 with h1 | h1
  · omega
  · have := Nat.mul_le_mul_left (256 ^ 7) h1
    omega
theorem num_take_le (l : List UInt8) (j k : Nat) (h : j ≤ k) : num (l.take j) ≤ num (l.take k) := by
  have e : l.take k = l.take j ++ (l.take k).drop j := by
    conv => lhs; rw [← List.take_append_drop j (l.take k)]
    rw [List.take_take, Nat.min_eq_left h]
  rw [e, num_append]
  exact Nat.le_add_right _ _
theorem step_num (l : List UInt8) (j k : Nat) (hj : j < k) (hk : num (l.take k) < 2 ^ 63) (hl : j < l.length) : wrap64 ((num (l.take j) : Int) + wrap64 (wrap64 (l[j].toNat : Int) * 2 ^ (8 * j))) = (num (l.take (j + 1)) : Int) := by
  have hn := num_take l j hl
  have hle := num_take_le l (j + 1) k (by omega)
  have hk : num (l.take k) < 9223372036854775808 := hk
  have hb := UInt8.toNat_lt l[j]
  have e1 : wrap64 (l[j].toNat : Int) = (l[j].toNat : Int) := by unfold wrap64; omega
  have e2 : (l[j].toNat : Int) * ((256 ^ j : Nat) : Int) = ((256 ^ j * l[j].toNat : Nat) : Int) := by rw [Int.natCast_mul, Int.mul_comm]
  rw [e1, pow8, e2]
  generalize 256 ^ j * l[j].toNat = M at *
  generalize num (l.take j) = A at *
  generalize num (l.take (j + 1)) = Z at *
  generalize num (l.take k) = Y at *
  have hM : M < 9223372036854775808 := by omega
  have hZ : Z < 9223372036854775808 := by omega
  clear hk hle hb e1 e2
  have e3 : wrap64 (M : Int) = M := by unfold wrap64; omega
  have e4 : (A : Int) + (M : Int) = (Z : Int) := by omega
  rw [e3, e4]
  unfold wrap64; omega
set_option maxRecDepth 100000 in
set_option maxHeartbeats 2000000 in
theorem rfixed (W : World) (s : ByteArray) (k : Nat) (h1 : 1 ≤ k) (h8 : k ≤ 8) (hs : k ≤ s.size) (hv : num (s.data.toList.take k) < 2 ^ 63) :
    Calls Tryz.prog 71 #[.string s, .int .i64 k] W fun e w' => e = .returned (.tuple #[.int .i64 (num (s.data.toList.take k)), .int .i64 0]) ∧ W = w' := by
  obtain ⟨R, hR⟩ : ∃ R : Nat, R = num (s.data.toList.take k) := ⟨_, rfl⟩
  rw [← hR]
  have HR := Lib.hid hR
  have HV := Lib.hid hv
  clear hR hv
  have g1 : ¬ (k : Int) < 1 := by omega
  have g2 : ¬ (8 : Int) < (k : Int) := by omega
  have g3 : ¬ (s.size : Int) < (k : Int) := by omega
  have hkk : (((k : Int) == 8) = true ∧ ∃ h7 : 7 < s.size, ¬ (127 : Int) < ((s[7]'h7).toNat : Int)) ∨ ((k : Int) == 8) = false := by
    by_cases hk8 : k = 8
    · subst hk8
      have h7 : 7 < s.size := by omega
      have ht := num_top s.data.toList HV.out (by rw [← size_data]; exact h7)
      refine .inl ⟨by decide, h7, ?_⟩
      have : (s[7]'h7) = s.data.toList[7]'(by rw [← size_data]; exact h7) := rfl
      rw [this]; omega
    · exact .inr (beq_eq_false_iff_ne.2 (by omega))
  rcases hkk with ⟨hk8', h7, ht'⟩ | hk8'
  case' inl => (have h7' : (7 : Int) < (s.size : Int) := by omega)
  all_goals
    go_enter Tryz.func71, Tryz.ntmps71
    go_wp2_with fail
    go_loopw [6, 7] (fun v i w' => ∃ j : Nat, j ≤ k ∧ i = .int .i64 j ∧ v = .int .i64 (num (s.data.toList.take j)) ∧ w' = W) (fun _ i _ => k - (intOf i).toNat)
    case atStart => exact ⟨0, by omega, rfl, rfl, rfl⟩
    case round =>
      obtain ⟨j, hj, rfl, rfl, rfl⟩ := hrel
      by_cases hlt : j < k
      · have hlt' : (j : Int) < (k : Int) := by omega
        have hjs : (j : Int) < (s.size : Int) := by omega
        have hj0 : (0 : Int) ≤ (j : Int) := by omega
        have hjn : j < s.size := by omega
        have hst : wrap64 ((num (s.data.toList.take j) : Int) + wrap64 (wrap64 ((s[j]'hjn).toNat : Int) * 2 ^ (8 * j))) = (num (s.data.toList.take (j + 1)) : Int) := step_num s.data.toList j k hlt HV.out (by rw [← size_data]; exact hjn)
        go_wp2_with fail
        go_roundw
        case rel => exact ⟨j + 1, by omega, by go_num, congrArg _ hst, trivial⟩
        case measure => simp [intOf]; omega
      · obtain rfl : j = k := by omega
        have hlt' : ¬ (j : Int) < (j : Int) := by omega
        clear hlt
        go_wp2
        go_ret2
        exact ⟨by rw [HR.out]; rfl, rfl⟩
set_option maxRecDepth 100000 in
theorem rnumber (W : World) (s : ByteArray) (a k : Nat) (h1 : 1 ≤ k) (h8 : k ≤ 8) (hs : a + k ≤ s.size) (hsz : s.size ≤ 1099511627776) (m : Nat) (hm : num ((s.data.toList.drop a).take k) = m) (hv : m < 2 ^ 63) :
    Calls Tryz.prog 54 #[.string s, .int .i64 a, .int .i64 k] W fun e w' => e = .returned (.int .i64 m) ∧ W = w' := by
  subst hm
  have HP := rfixed W (s.extract a s.size) k h1 h8 (by rw [size_data, extract_rest, List.length_drop, ← size_data]; omega) (by rw [extract_rest]; exact hv)
  rw [extract_rest] at HP
  have HP := Lib.hid HP
  have has : a ≤ s.size := by omega
  clear hv
  go_enter Tryz.func54, Tryz.ntmps54
  go_wp2_with fail
  refine HP.out.mono ?_
  rintro e w1 ⟨rfl, rfl⟩
  go_wp2
  go_ret
  exact ⟨rfl, rfl⟩
end Go.Proofs.YtnhemmjbodhjeaaGreat.Rf
namespace Go.Proofs.YtnhemmjbodhjeaaGreat.Sg
open Go.RowKit Go.Maps Go.ChangeMaps Go.WideMaps Go.Proofs.YtnhemmjbodhjeaaGreat.Su Go.Proofs.YtnhemmjbodhjeaaGreat.Bt Go.Proofs.YtnhemmjbodhjeaaGreat.Rc Go.Proofs.YtnhemmjbodhjeaaGreat.Ba Go.Proofs.YtnhemmjbodhjeaaGreat.Rf
set_option linter.unusedVariables false
theorem nv_num {l : List UInt8} {a k m : Nat} (h : nv l a k = (m : Int)) : num ((l.drop a).take k) = m ∧ m < 9223372036854775808 := by
  unfold nv at h
  split at h <;> omega
/-- the numbers that a batch's text bears -/
structure Nums (l : List UInt8) (b c v p q : Nat) : Prop where
  front : l.take 2 = [80, 66]
  n2 : num ((l.drop 2).take 4) = l.length - 10
  n6 : num ((l.drop 6).take 4) = crc ((l.drop 10).take (l.length - 10))
  n10 : num ((l.drop 10).take 8) = b
  n18 : num ((l.drop 18).take 2) = c
  n20 : num ((l.drop 20).take 4) = v
  n24 : num ((l.drop 24).take 4) = p
  n28 : num ((l.drop 28).take 4) = q
  n32 : (l.getD 32 0).toNat = 0
theorem nums_of (I : List UInt8) (b c v p q : Nat) (h29 : 29 ≤ I.length) (hm : I.length ≤ 262144) (i0 : nv I 0 8 = b) (i1 : nv I 8 2 = c) (i2 : nv I 10 4 = v) (i3 : nv I 14 4 = p) (i4 : nv I 18 4 = q) (i7 : (I.getD 22 0).toNat = 0) : Nums (outer I) b c v p q := by
  obtain ⟨o1, o2, o3, o4, o5⟩ := outer_fields (t := []) h29 hm
  rw [List.append_nil] at o1 o2 o3 o4
  have hd : (outer I).drop 10 = I := by
    unfold outer
    rw [List.drop_left' (by simp [le_length])]
  have hdd : ∀ j, (outer I).drop (10 + j) = I.drop j := fun j => by rw [← List.drop_drop, hd]
  refine ⟨o4, ?_, ?_, ?_, ?_, ?_, ?_, ?_, ?_⟩
  · rw [o5, Nat.add_sub_cancel_left]; exact (nv_num o1).1
  · rw [hd, o5, Nat.add_sub_cancel_left, List.take_of_length_le (Nat.le_refl _)]; exact (nv_num o2).1
  · have := (nv_num i0).1; rw [hd]; exact this
  · rw [hdd 8]; exact (nv_num i1).1
  · rw [hdd 10]; exact (nv_num i2).1
  · rw [hdd 14]; exact (nv_num i3).1
  · rw [hdd 18]; exact (nv_num i4).1
  · have : (outer I).getD 32 0 = I.getD 22 0 := by
      have h2 : (outer I)[32]? = I[22]? := by
        conv => rhs; rw [← hd]
        rw [List.getElem?_drop]
      rw [List.getD_eq_getElem?_getD, List.getD_eq_getElem?_getD, h2]
    rw [this]; exact i7
set_option maxRecDepth 100000 in
set_option maxHeartbeats 4000000 in
theorem rhead_nums (s : ByteArray) (b c v p q : Nat) (h39 : 39 ≤ s.size) (hsz : s.size ≤ 262154) (hN : Nums s.data.toList b c v p q) (hh : headed b c v p q = true) (w : World) :
    Calls Tryz.prog 52 #[.string s] w fun e w' => e = .returned (.tuple #[.agg #[.int .i64 b, .int .i64 c, .int .i64 v, .int .i64 p, .int .i64 q, .slice none 0 0], .int .i64 s.size, .int .i64 0]) ∧ Below w.heap.size w w' := by
  have h33 : 32 < s.size := by omega
  have hl := size_data s
  obtain ⟨n, hn⟩ : ∃ n, n = s.size - 10 := ⟨_, rfl⟩
  have h10n : (10 : Int) + (n : Int) = (s.size : Int) := by omega
  have hn29 : ¬ (n : Int) < 29 := by omega
  have hnm : ¬ (262144 : Int) < (n : Int) := by omega
  have hs10 : ¬ (s.size : Int) < 10 := by omega
  have hs2 : (2 : Int) ≤ (s.size : Int) := by omega
  have hs32 : (32 : Int) < (s.size : Int) := by omega
  have hsl : ¬ (s.size : Int) < (s.size : Int) := by omega
  have hsw : IntKind.i64.wrap (s.size : Int) = (s.size : Int) := IntWalk.i64_in _ (by omega)
  have hm : (s.extract 0 2).toList = [80, 66] := by
    rw [ByteArray.toList_eq, extract_data]; exact hN.front
  have h32 : ((s[32]'h33).toNat : Int) = 0 := by
    have := hN.n32
    rw [List.getD_eq_getElem?_getD, List.getElem?_eq_getElem (by rw [← hl]; omega)] at this
    have e : (s[32]'h33) = s.data.toList[32]'(by rw [← hl]; omega) := rfl
    rw [e]
    simpa using this
  have HNN := Lib.hid (show ∀ W, Calls Tryz.prog 54 #[.string s, .int .i64 2, .int .i64 4] W fun e w' => e = .returned (.int .i64 n) ∧ W = w' from fun W => rnumber W s 2 4 (by decide) (by decide) (by omega) (by omega) n (by rw [hN.n2, ← hl, hn]) (by omega))
  have hcl := crc_lt ((s.data.toList.drop 10).take (s.data.toList.length - 10))
  have HN6 := Lib.hid (show ∀ W, Calls Tryz.prog 54 #[.string s, .int .i64 6, .int .i64 4] W fun e w' => e = .returned (.int .i64 (crc ((s.data.toList.drop 10).take (s.data.toList.length - 10)) : Nat)) ∧ W = w' from fun W => rnumber W s 6 4 (by decide) (by decide) (by omega) (by omega) _ hN.n6 (by omega))
  have hb := headed_bounds hh
  have HN10 := Lib.hid (show ∀ W, Calls Tryz.prog 54 #[.string s, .int .i64 10, .int .i64 8] W fun e w' => e = .returned (.int .i64 b) ∧ W = w' from fun W => rnumber W s 10 8 (by decide) (by decide) (by omega) (by omega) _ hN.n10 (by omega))
  have HN18 := Lib.hid (show ∀ W, Calls Tryz.prog 54 #[.string s, .int .i64 18, .int .i64 2] W fun e w' => e = .returned (.int .i64 c) ∧ W = w' from fun W => rnumber W s 18 2 (by decide) (by decide) (by omega) (by omega) _ hN.n18 (by omega))
  have HN20 := Lib.hid (show ∀ W, Calls Tryz.prog 54 #[.string s, .int .i64 20, .int .i64 4] W fun e w' => e = .returned (.int .i64 v) ∧ W = w' from fun W => rnumber W s 20 4 (by decide) (by decide) (by omega) (by omega) _ hN.n20 (by omega))
  have HN24 := Lib.hid (show ∀ W, Calls Tryz.prog 54 #[.string s, .int .i64 24, .int .i64 4] W fun e w' => e = .returned (.int .i64 p) ∧ W = w' from fun W => rnumber W s 24 4 (by decide) (by decide) (by omega) (by omega) _ hN.n24 (by omega))
  have HN28 := Lib.hid (show ∀ W, Calls Tryz.prog 54 #[.string s, .int .i64 28, .int .i64 4] W fun e w' => e = .returned (.int .i64 q) ∧ W = w' from fun W => rnumber W s 28 4 (by decide) (by decide) (by omega) (by omega) _ hN.n28 (by omega))
  have HH := Lib.hid hh
  have hcx : (s.extract 10 s.size).data.toList = (s.data.toList.drop 10).take (s.data.toList.length - 10) := by rw [extract_data, ← hl]
  have HCR := Lib.hid (show ∀ W, Calls Tryz.prog 51 #[.string (s.extract 10 s.size)] W fun e w' => e = .returned (.int .i64 (crc ((s.data.toList.drop 10).take (s.data.toList.length - 10)) : Nat)) ∧ W = w' from fun W => by
    have := Crc W (s.extract 10 s.size) (by rw [size_data, extract_rest, List.length_drop, ← size_data]; omega)
    rw [hcx] at this
    exact this)
  generalize crc ((s.data.toList.drop 10).take (s.data.toList.length - 10)) = X at HN6 HCR
  clear hcx hcl hb hh hN hn hl h39 hsz
  go_enter Tryz.func52, Tryz.ntmps52
  go_wp2_with fail
  refine (HNN.out _).mono ?_
  rintro e w1 ⟨rfl, rfl⟩
  go_upto_region 8 with (fail)
  go_quiet (first | (go_at_call 54; refine Calls.quiet_of_same ((HN6.out _).mono fun e w' h => ⟨h.1, h.2.symm⟩)) | (go_at_call 51; refine Calls.quiet_of_same ((HCR.out _).mono fun e w' h => ⟨h.1, h.2.symm⟩)))
  have hB0 : Below w.heap.size w ((w.alloc (.cells #[.int .i64 0, .int .i64 0, .int .i64 0, .int .i64 0, .int .i64 0, .slice none 0 0] 73)).drewN nq) := ((Below.refl w.heap.size w).alloc (Nat.le_refl _) _).trans ⟨rfl, rfl, rfl, Nat.le_refl _, fun _ _ => rfl⟩
  have hC0 : ((w.alloc (.cells #[.int .i64 0, .int .i64 0, .int .i64 0, .int .i64 0, .int .i64 0, .slice none 0 0] 73)).drewN nq).heap[w.heap.size]? = some (.cells #[.int .i64 0, .int .i64 0, .int .i64 0, .int .i64 0, .int .i64 0, .slice none 0 0] 73 (0, 0)) := heap_alloc_last w _
  generalize (w.alloc (.cells #[.int .i64 0, .int .i64 0, .int .i64 0, .int .i64 0, .int .i64 0, .slice none 0 0] 73)).drewN nq = W at hB0 hC0 ⊢
  have HB0 := Lib.hid hB0
  have HC0 := Lib.hid hC0
  clear hB0 hC0
  go_wp2_with fail
  refine (HN10.out _).mono ?_
  rintro e w10 ⟨rfl, rfl⟩
  go_wp2_with fail
  refine (HN18.out _).mono ?_
  rintro e w18 ⟨rfl, rfl⟩
  go_wp2_with fail
  refine (HN20.out _).mono ?_
  rintro e w20 ⟨rfl, rfl⟩
  go_wp2_with fail
  refine (HN24.out _).mono ?_
  rintro e w24 ⟨rfl, rfl⟩
  go_wp2_with fail
  refine (HN28.out _).mono ?_
  rintro e w28 ⟨rfl, rfl⟩
  go_wp2_with fail
  refine (rheaded b c v p q none 0 0 _).mono ?_
  rintro e w1 ⟨rfl, hb1⟩
  rw [HH.out]
  have hA := (hb1.block _ (by show _ < (W.heap.push _).size; simp)).trans (heap_alloc_last W (.cells #[.int .i64 b, .int .i64 c, .int .i64 v, .int .i64 p, .int .i64 q, .slice none 0 0] 73))
  have hD := (hb1.block _ (Rc.lt_of_heap (Rc.alloc_old _ HC0.out))).trans (Rc.alloc_old (.cells #[.int .i64 b, .int .i64 c, .int .i64 v, .int .i64 p, .int .i64 q, .slice none 0 0] 73) HC0.out)
  have hBB := HB0.out.trans (((Below.refl W.heap.size W).alloc (Nat.le_refl _) (.cells #[.int .i64 b, .int .i64 c, .int .i64 v, .int .i64 p, .int .i64 q, .slice none 0 0] 73)).mono HB0.out.size)
  have hBB2 := hBB.trans (hb1.mono hBB.size)
  have HBB := Lib.hid hBB2
  have HA := Lib.hid hA
  have HD := Lib.hid hD
  obtain ⟨a0, a1, a2, a3, a4, a5⟩ := cells6 hA
  obtain ⟨d0, d1, d2, d3, d4, d5⟩ := cells6 hD
  have hfz := fun j => Lib.frozen_of_heap hD j
  clear hA hD hBB hBB2 hb1
  go_wp2_with fail
  have hF : ((((((w1.setCell ⟨w.heap.size, 0, none⟩ (.int .i64 b)).setCell ⟨w.heap.size, 1, none⟩ (.int .i64 c)).setCell ⟨w.heap.size, 2, none⟩ (.int .i64 v)).setCell ⟨w.heap.size, 3, none⟩ (.int .i64 p)).setCell ⟨w.heap.size, 4, none⟩ (.int .i64 q)).setCell ⟨w.heap.size, 5, none⟩ (.slice none 0 0)).heap[w.heap.size]? = some (.cells #[.int .i64 b, .int .i64 c, .int .i64 v, .int .i64 p, .int .i64 q, .slice none 0 0] 73 (0, 0)) := (Rc.set_cells _ (Rc.set_cells _ (Rc.set_cells _ (Rc.set_cells _ (Rc.set_cells _ (Rc.set_cells _ HD.out)))))).trans rfl
  have hFB : Below w.heap.size w ((((((w1.setCell ⟨w.heap.size, 0, none⟩ (.int .i64 b)).setCell ⟨w.heap.size, 1, none⟩ (.int .i64 c)).setCell ⟨w.heap.size, 2, none⟩ (.int .i64 v)).setCell ⟨w.heap.size, 3, none⟩ (.int .i64 p)).setCell ⟨w.heap.size, 4, none⟩ (.int .i64 q)).setCell ⟨w.heap.size, 5, none⟩ (.slice none 0 0)) := ((((((HBB.out).setCell (p := ⟨w.heap.size, 0, none⟩) (Nat.le_refl _) _).setCell (p := ⟨w.heap.size, 1, none⟩) (Nat.le_refl _) _).setCell (p := ⟨w.heap.size, 2, none⟩) (Nat.le_refl _) _).setCell (p := ⟨w.heap.size, 3, none⟩) (Nat.le_refl _) _).setCell (p := ⟨w.heap.size, 4, none⟩) (Nat.le_refl _) _).setCell (p := ⟨w.heap.size, 5, none⟩) (Nat.le_refl _) _
  generalize (((((w1.setCell ⟨w.heap.size, 0, none⟩ (.int .i64 b)).setCell ⟨w.heap.size, 1, none⟩ (.int .i64 c)).setCell ⟨w.heap.size, 2, none⟩ (.int .i64 v)).setCell ⟨w.heap.size, 3, none⟩ (.int .i64 p)).setCell ⟨w.heap.size, 4, none⟩ (.int .i64 q)).setCell ⟨w.heap.size, 5, none⟩ (.slice none 0 0) = F at hF hFB ⊢
  obtain ⟨f0, f1, f2, f3, f4, f5⟩ := cells6 hF
  refine bodyPost_ret (v := .tuple #[.agg #[.int .i64 b, .int .i64 c, .int .i64 v, .int .i64 p, .int .i64 q, .slice none 0 0], .int .i64 s.size, .int .i64 0]) (by simp [results, Tryz.results52, go_sem, *]) rfl ⟨rfl, hFB⟩
theorem Bat.Ok.nums {x : Bat} (h : x.Ok) : Nums x.l x.b x.c x.v x.p x.q := by
  obtain ⟨h1, h2, h3⟩ := may_parts h.may
  have hs := h.small
  obtain ⟨i0, i1, i2, i3, i4, i5, i6, i7, i8⟩ := inner_fields (codec := 0) (n := x.rs.length) (p := (recsStr x.b x.rs).size) (z := (recsStr x.b x.rs).data.toList) h1 (by omega) (by omega) (by omega)
  have hl := inner_length x.b x.c x.v x.p x.q 0 x.rs.length (recsStr x.b x.rs).size (recsStr x.b x.rs).data.toList
  have hz := size_data (recsStr x.b x.rs)
  rw [← hz] at hl
  have hI1 : 29 ≤ (inner x.b x.c x.v x.p x.q 0 x.rs.length (recsStr x.b x.rs).size (recsStr x.b x.rs).data.toList).length := by rw [hl]; exact Nat.le_add_right _ _
  have hI2 : (inner x.b x.c x.v x.p x.q 0 x.rs.length (recsStr x.b x.rs).size (recsStr x.b x.rs).data.toList).length ≤ 262144 := by rw [hl]; exact Nat.add_le_add_left hs 29
  exact nums_of _ _ _ _ _ _ hI1 hI2 i0 i1 i2 i3 i4 i7
theorem rhead_bat (x : Bat) (h : x.Ok) (w : World) :
    Calls Tryz.prog 52 #[.string (str x.l)] w fun e w' => e = .returned (.tuple #[.agg #[.int .i64 x.b, .int .i64 x.c, .int .i64 x.v, .int .i64 x.p, .int .i64 x.q, .slice none 0 0], .int .i64 x.l.length, .int .i64 0]) ∧ Below w.heap.size w w' := by
  have hl := h.len
  have hn := h.nums
  rw [← str_data x.l] at hn
  have hr := rhead_nums (str x.l) x.b x.c x.v x.p x.q (by rw [str_size]; exact hl.1) (by rw [str_size]; exact hl.2) hn (may_parts h.may).1 w
  rw [str_size] at hr
  exact hr
end Go.Proofs.YtnhemmjbodhjeaaGreat.Sg
