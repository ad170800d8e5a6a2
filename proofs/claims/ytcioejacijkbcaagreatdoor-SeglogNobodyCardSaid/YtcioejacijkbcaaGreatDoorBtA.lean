/- bits: numbers as bytes. -/
import Derived.Test.YtcioejacijkbcaaGreatDoorSuA
import Derived.Laws.MakeOwn
import Derived.Lib.ConvBytes
import Derived.Laws.BytesArg
import Derived.ArgAppend
import Derived.Maps.AppendAt
namespace Go.Proofs.YtcioejacijkbcaaGreatDoor.Bt
open Go.RowKit Go.Maps Go.ChangeMaps Go.WideMaps Go.Proofs.YtcioejacijkbcaaGreatDoor.Su
set_option linter.unusedVariables false
/-- the cells behind j rounds -/
@[irreducible] def pcells (n k j : Nat) : Array Value := Array.ofFn (n := k) fun i => if i.val < j then .int .u8 ((n / 256 ^ i.val % 256 : Nat)) else .int .u8 0
theorem pcells_size (n k j : Nat) : (pcells n k j).size = k := by unfold pcells; simp
theorem pcells_get (n k j i : Nat) (h : i < k) : (pcells n k j)[i]? = some (if i < j then .int .u8 ((n / 256 ^ i % 256 : Nat)) else .int .u8 0) := by unfold pcells; simp [h]
theorem pcells_set (n k j : Nat) (h : j < k) : (pcells n k j).setIfInBounds j (.int .u8 ((n / 256 ^ j % 256 : Nat))) = pcells n k (j + 1) := by
  apply Array.ext_getElem?
  intro i
  rw [Array.getElem?_setIfInBounds, pcells_size]
  rcases Nat.lt_or_ge i k with hi | hi
  · rw [pcells_get _ _ _ _ hi, pcells_get _ _ _ _ hi]
    by_cases e : j = i
    · subst e; simp [h]
    · have : (i < j) = (i < j + 1) := by simp; omega
      simp [e, this]
  · rw [Array.getElem?_eq_none (by rw [pcells_size]; exact hi), Array.getElem?_eq_none (by rw [pcells_size]; exact hi)]
    simp; omega
/-- a number as so many bytes, the lowest first -/
def le : Nat → Nat → List UInt8
  | _, 0 => []
  | n, k + 1 => UInt8.ofNat (n % 256) :: le (n / 256) k
theorem le_length (n k : Nat) : (le n k).length = k := by
  induction k generalizing n with
  | zero => rfl
  | succ k ih => simp [le, ih]
theorem le_get (n k i : Nat) (h : i < k) : (le n k)[i]? = some (UInt8.ofNat (n / 256 ^ i % 256)) := by
  induction k generalizing n i with
  | zero => omega
  | succ k ih =>
    cases i with
    | zero => simp [le]
    | succ i => simp only [le, List.getElem?_cons_succ]; rw [ih _ _ (by omega), Nat.div_div_eq_div_mul, Nat.pow_succ, Nat.mul_comm]
def str (l : List UInt8) : ByteArray := ⟨l.toArray⟩
theorem str_data (l : List UInt8) : (str l).data.toList = l := by simp [str]
theorem str_size (l : List UInt8) : (str l).size = l.length := by simp [str, ByteArray.size]
theorem strOf_le (n k : Nat) : strOfNums ((le n k).map (fun x => (x.toNat : Int))) = str (le n k) := by
  unfold strOfNums str
  congr 1
  rw [List.map_map]
  congr 1
  conv => rhs; rw [← List.map_id (le n k)]
  apply List.map_congr_left
  intro x _
  simp
theorem pow8 (j : Nat) : (2 : Int) ^ (8 * j) = ((256 ^ j : Nat) : Int) := by
  rw [Int.pow_mul, Int.natCast_pow]; rfl
theorem quot8 (n j : Nat) : (n : Int) / 2 ^ (8 * (j : Int)).toNat % 256 = ((n / 256 ^ j % 256 : Nat) : Int) := by
  have : (8 * (j : Int)).toNat = 8 * j := by omega
  rw [this, pow8, Int.natCast_emod, Int.natCast_ediv]; rfl
theorem top_none (n k : Nat) (h1 : 1 ≤ k) (h : n < 256 ^ k) : ((n : Int) / 2 ^ ((8 * (k : Int)).toNat - 1) / 2 != 0) = false := by
  have e : (8 * (k : Int)).toNat = 8 * k := by omega
  have h2 : n / 2 ^ (8 * k - 1) / 2 = 0 := by
    rw [Nat.div_div_eq_div_mul, ← Nat.pow_succ]
    have : 8 * k - 1 + 1 = 8 * k := by omega
    rw [Nat.div_eq_of_lt]
    rw [Nat.succ_eq_add_one, this, Nat.pow_mul]
    exact h
  rw [e]
  have : (n : Int) / 2 ^ (8 * k - 1) / 2 = ((n / 2 ^ (8 * k - 1) / 2 : Nat) : Int) := by rw [Int.natCast_ediv, Int.natCast_ediv, Int.natCast_pow]; rfl
  rw [this, h2]; rfl
theorem info8 : ((Tryz.prog.info? 5).map fun i => (i.zero, i.size, i.bytes)) = some (some (.int .u8 0), 1, 1) := by kernel_rfl
theorem info_parts {i? : Option TypeInfo} {z : Value} {a b : Nat} (h : (i?.map fun i => (i.zero, i.size, i.bytes)) = some (some z, a, b)) : ∃ i, i? = some i ∧ i.zero = some z ∧ i.size = a ∧ i.bytes = b := by
  cases i? with
  | none => simp at h
  | some i => simp at h; exact ⟨i, rfl, h.1, h.2.1, h.2.2⟩
theorem pcells_zero (n k : Nat) : pcells n k 0 = madeCells #[.int .u8 0] k := by
  apply Array.ext_getElem?
  intro i
  rcases Nat.lt_or_ge i k with hi | hi
  · rw [pcells_get _ _ _ _ hi]
    simp [madeCells, hi, Nat.mod_one]
  · rw [Array.getElem?_eq_none (by rw [pcells_size]; exact hi), Array.getElem?_eq_none (by simp [madeCells]; omega)]
theorem make8 (W : World) (n k : Nat) (hk : k ≤ 8) : (Instr.makeSlice 60 (.int .i64 k) (.int .i64 k)).run Tryz.prog W = .ok (.slice (some ⟨W.heap.size, 0, none⟩) k k) (W.alloc (.cells (pcells n k 0) 5)) := by
  obtain ⟨i0, hi, hz0, hz1, hz2⟩ := info_parts info8
  have := run_make (P := Tryz.prog) W 60 5 i0 (.int .u8 0) Tryz.underlying60 hi hz0 .i64 .i64 k k (by omega) (by omega) (by rw [hz2]; omega) (by omega)
  rw [pcells_zero]
  simpa [hz1, Value.cells] using this
theorem conv8 (W : World) (n k : Nat) : (convert 60 9 (.slice (some ⟨W.heap.size, 0, none⟩) k k)).run Tryz.prog (W.alloc (.cells (pcells n k k) 5)) = .ok (.string (str (le n k))) (W.alloc (.cells (pcells n k k) 5)) := by
  rw [run_convert_bytes_arg (P := Tryz.prog) _ _ _ Tryz.underlying60 Tryz.underlying5 W.heap.size 0 k k ((le n k).map (fun x => (x.toNat : Int))) (by simp [le_length]) ?_ _ Tryz.underlying9]
  · rw [strOf_le]
  · intro j hj
    have hb : (W.alloc (.cells (pcells n k k) 5)).heap[W.heap.size]? = _ := heap_alloc_last _ _
    have hj' : j < k := by simpa [le_length] using hj
    rw [cell_of_row _ _ _ _ _ _ hb, Nat.zero_add, pcells_get _ _ _ _ hj', if_pos hj', List.getD_eq_getElem?_getD, List.getElem?_map, le_get _ _ _ hj']
    simp
set_option maxRecDepth 100000 in
set_option maxHeartbeats 4000000 in
theorem putFixed (W : World) (n k : Nat) (h1 : 1 ≤ k) (h8 : k ≤ 8) (hn : n < 2 ^ 63) (hk : n < 256 ^ k) :
    Calls Tryz.prog 188 #[.int .i64 n, .int .i64 k] W fun e w' => e = .returned (.tuple #[.string (str (le n k)), .int .i64 0]) ∧ Below W.heap.size W w' := by
  obtain ⟨N, hN⟩ : ∃ N : Int, N = n := ⟨_, rfl⟩
  obtain ⟨K, hK⟩ : ∃ K : Int, K = k := ⟨_, rfl⟩
  have hq := top_none n k h1 hk
  have hmk := make8 W n k h8
  have hw : IntKind.u64.wrap N = N := by
    have : IntKind.u64.wrap N = N % 18446744073709551616 := by simp [IntKind.wrap, IntKind.bits, IntKind.signed]
    omega
  have h0 : 0 ≤ N := by omega
  have hK1 : 1 ≤ K := by omega
  have hK8 : K ≤ 8 := by omega
  rw [← hN, ← hK] at hq ⊢
  rw [← hK] at hmk
  have HN := Lib.hid hN
  have HK := Lib.hid hK
  clear hN hK hn hk
  go_enter Tryz.func188, Tryz.ntmps188
  go_wp2_with fail
  go_loopw [31] (fun i w' => ∃ j : Nat, j ≤ k ∧ i = .int .i64 j ∧ w' = W.alloc (.cells (pcells n k j) 5)) (fun i _ => k - (intOf i).toNat)
  case atStart => exact ⟨0, by omega, rfl, rfl⟩
  case round =>
    obtain ⟨j, hj, rfl, rfl⟩ := hrel
    by_cases hlt : j < k
    · have hjK : (j : Int) < K := by rw [HK.out]; omega
      have hg : (pcells n k j)[j]? = some (.int .u8 0) := by rw [pcells_get n k j j hlt]; simp
      have hs := pcells_set n k j hlt
      have hv := quot8 n j
      rw [← HN.out] at hv
      rw [← hv, show (8 * (j : Int)).toNat = 8 * j from by omega] at hs
      have h8j : j ≤ 7 := by omega
      go_wp2_with fail
      go_roundw
      case rel => exact ⟨j + 1, by omega, by go_num, rfl⟩
      case measure => simp [intOf]; omega
    · have hjK : ¬ (j : Int) < K := by rw [HK.out]; omega
      obtain rfl : j = k := by omega
      have hcv := conv8 W n j
      go_wp2_with fail
      go_ret2
      exact ⟨rfl, (Below.refl _ _).alloc (Nat.le_refl _) _⟩
/-- the number of bytes, the lowest first -/
def num : List UInt8 → Nat
  | [] => 0
  | b :: l => b.toNat + 256 * num l
theorem num_lt (l : List UInt8) : num l < 256 ^ l.length := by
  induction l with
  | nil => simp [num]
  | cons b l ih => simp only [num, List.length_cons, Nat.pow_succ]; have := UInt8.toNat_lt b; omega
theorem num_append (a b : List UInt8) : num (a ++ b) = num a + 256 ^ a.length * num b := by
  induction a with
  | nil => simp [num]
  | cons x a ih => simp only [List.cons_append, num, ih, List.length_cons, Nat.pow_succ, Nat.mul_add]; rw [← Nat.mul_assoc, Nat.mul_comm 256 (256 ^ a.length), Nat.add_assoc]
theorem num_le (n k : Nat) (h : n < 256 ^ k) : num (le n k) = n := by
  induction k generalizing n with
  | zero => simp at h; subst h; rfl
  | succ k ih =>
    simp only [le, num]
    rw [ih (n / 256) (by rw [Nat.pow_succ] at h; exact Nat.div_lt_of_lt_mul (by omega))]
    simp only [UInt8.toNat_ofNat']
    omega
theorem num_take (l : List UInt8) (j : Nat) (h : j < l.length) : num (l.take (j + 1)) = num (l.take j) + 256 ^ j * l[j].toNat := by
  rw [List.take_succ_eq_append_getElem h, num_append, List.length_take_of_le (by omega)]; simp [num]
theorem wraps_u64 (n : Int) (h₀ : 0 ≤ n) (h₁ : n < 2 ^ 64) : IntKind.u64.wrap n = n := by
  have : IntKind.u64.wrap n = n % 18446744073709551616 := by simp [IntKind.wrap, IntKind.bits, IntKind.signed]
  omega
theorem or_shift (V j : Nat) (b : UInt8) (hj : j ≤ 7) (hV : V < 256 ^ j) :
    bits .or .u64 (V : Int) (IntKind.u64.wrap (IntKind.u64.wrap (b.toNat : Int) * 2 ^ (8 * j))) = ((V + 256 ^ j * b.toNat : Nat) : Int) := by
  have hb := UInt8.toNat_lt b
  have e256 : (256 : Nat) ^ j = 2 ^ (8 * j) := by rw [Nat.pow_mul]
  have hle : 2 ^ (8 * j) * 256 ≤ 2 ^ 64 := by
    rw [show (256 : Nat) = 2 ^ 8 from rfl, ← Nat.pow_add]
    exact Nat.pow_le_pow_right (by decide) (by omega)
  have hlt : 2 ^ (8 * j) * b.toNat < 2 ^ 64 := by
    have : 2 ^ (8 * j) * b.toNat < 2 ^ (8 * j) * 256 := Nat.mul_lt_mul_of_pos_left hb (Nat.two_pow_pos _)
    omega
  have hlt0 : 2 ^ (8 * j) ≤ 2 ^ 64 := by have := Nat.two_pow_pos (8 * j); omega
  rw [wraps_u64 (b.toNat : Int) (by omega) (by omega)]
  have hm : (b.toNat : Int) * 2 ^ (8 * j) = ((2 ^ (8 * j) * b.toNat : Nat) : Int) := by
    rw [Int.natCast_mul, Int.natCast_pow, Int.mul_comm]; rfl
  rw [hm, wraps_u64 _ (Int.natCast_nonneg _) (by exact_mod_cast hlt)]
  rw [(bits_nat .u64 64 (by decide) wraps_u64 V (2 ^ (8 * j) * b.toNat) (by rw [e256] at hV; omega) hlt).2]
  rw [e256] at hV ⊢
  rw [Nat.or_comm, ← Nat.two_pow_add_eq_or_of_lt hV, Nat.add_comm]
set_option maxRecDepth 100000 in
set_option maxHeartbeats 4000000 in
theorem fixed_short (W : World) (s : ByteArray) (k : Nat) (h1 : 1 ≤ k) (h8 : k ≤ 8) (hs : s.size < k) :
    Calls Tryz.prog 89 #[.string s, .int .i64 k] W fun e w' => e = .returned (.tuple #[.int .i64 0, .int .i64 5]) ∧ W = w' := by
  obtain ⟨K, hK⟩ : ∃ K : Int, K = k := ⟨_, rfl⟩
  have hK1 : 1 ≤ K := by omega
  have hK8 : K ≤ 8 := by omega
  have hK2 : (s.size : Int) < K := by omega
  rw [← hK]
  clear hK h1 h8 hs
  go_enter Tryz.func89, Tryz.ntmps89
  go_wp2
  go_ret2
  exact ⟨rfl, rfl⟩
set_option maxRecDepth 100000 in
set_option maxHeartbeats 4000000 in
theorem fixed_any (W : World) (s : ByteArray) (k : Nat) (h1 : 1 ≤ k) (h8 : k ≤ 8) (hs : k ≤ s.size) (r1 r2 : Int)
    (hr : (num (s.data.toList.take k) < 2 ^ 63 ∧ r1 = num (s.data.toList.take k) ∧ r2 = 0) ∨ (¬ num (s.data.toList.take k) < 2 ^ 63 ∧ r1 = 0 ∧ r2 = 10)) :
    Calls Tryz.prog 89 #[.string s, .int .i64 k] W fun e w' => e = .returned (.tuple #[.int .i64 r1, .int .i64 r2]) ∧ W = w' := by
  obtain ⟨K, hK⟩ : ∃ K : Int, K = k := ⟨_, rfl⟩
  have hK1 : 1 ≤ K := by omega
  have hK8 : K ≤ 8 := by omega
  have hK2 : ¬ (s.size : Int) < K := by omega
  rw [← hK]
  have HK := Lib.hid hK
  have HS := Lib.hid hs
  have HR := Lib.hid hr
  clear hr
  clear hK h1 h8 hs
  go_enter Tryz.func89, Tryz.ntmps89
  go_wp2_with fail
  go_loopw [6, 19] (fun u i w' => ∃ j : Nat, j ≤ k ∧ i = .int .i64 j ∧ u = .int .u64 (num (s.data.toList.take j)) ∧ w' = W) (fun _ i _ => k - (intOf i).toNat)
  case atStart => exact ⟨0, by omega, rfl, rfl, rfl⟩
  case round =>
    obtain ⟨j, hj, rfl, rfl, rfl⟩ := hrel
    by_cases hlt : j < k
    · have hjK : (j : Int) < K := by rw [HK.out]; omega
      have hjs : j < s.size := by have := HS.out; omega
      have hjl : j < s.data.toList.length := by rw [Array.length_toList]; exact hjs
      have hor := or_shift (num (s.data.toList.take j)) j (s[j]'hjs) (by have := HK.out; omega) (by have := num_lt (s.data.toList.take j); rwa [List.length_take_of_le (by omega)] at this)
      have hnt : num (s.data.toList.take (j + 1)) = num (s.data.toList.take j) + 256 ^ j * (s[j]'hjs).toNat := num_take s.data.toList j hjl
      rw [← hnt] at hor
      clear hnt
      go_wp2_with fail
      go_roundw
      case rel => exact ⟨j + 1, by omega, by go_num, rfl, trivial⟩
      case measure => simp [intOf]; omega
    · have hjK : ¬ (j : Int) < K := by rw [HK.out]; omega
      obtain rfl : j = k := by omega
      have hV := num_lt (s.data.toList.take j)
      have hj8 : j ≤ 8 := by have := HK.out; omega
      have hr := HR.out
      clear HR
      generalize num (s.data.toList.take j) = V at hV hr
      have hV64 : (V : Int) < 18446744073709551616 := by
        rw [List.length_take_of_le (by rw [Array.length_toList]; exact HS.out)] at hV
        have : 256 ^ j ≤ 256 ^ 8 := Nat.pow_le_pow_right (by decide) hj8
        omega
      clear hV
      obtain ⟨X, hX⟩ : ∃ X : Int, X = V := ⟨_, rfl⟩
      rcases hr with ⟨hb, rfl, rfl⟩ | ⟨hb, rfl, rfl⟩
      · have ht : (X / 9223372036854775808 != 0) = false := by
          have : X / 9223372036854775808 = 0 := by omega
          rw [this]; rfl
        have hw : wrap64 X = X := by unfold wrap64; omega
        rw [← hX]
        have HX := Lib.hid hX
        clear hb hV64 hX
        go_wp2
        go_ret2
        exact ⟨by rw [← HX.out]; rfl, rfl⟩
      · have ht : (X / 9223372036854775808 != 0) = true := by
          have : X / 9223372036854775808 = 1 := by omega
          rw [this]; rfl
        rw [← hX]
        clear hb hV64 hX
        go_wp2
        go_ret2
        exact ⟨rfl, rfl⟩
theorem fixed (W : World) (s : ByteArray) (k : Nat) (h1 : 1 ≤ k) (h8 : k ≤ 8) (hs : k ≤ s.size) (hv : num (s.data.toList.take k) < 2 ^ 63) :
    Calls Tryz.prog 89 #[.string s, .int .i64 k] W fun e w' => e = .returned (.tuple #[.int .i64 (num (s.data.toList.take k)), .int .i64 0]) ∧ W = w' :=
  fixed_any W s k h1 h8 hs _ _ (.inl ⟨hv, rfl, rfl⟩)
theorem fixed_over (W : World) (s : ByteArray) (k : Nat) (h1 : 1 ≤ k) (h8 : k ≤ 8) (hs : k ≤ s.size) (hv : ¬ num (s.data.toList.take k) < 2 ^ 63) :
    Calls Tryz.prog 89 #[.string s, .int .i64 k] W fun e w' => e = .returned (.tuple #[.int .i64 0, .int .i64 10]) ∧ W = w' :=
  fixed_any W s k h1 h8 hs _ _ (.inr ⟨hv, rfl, rfl⟩)
end Go.Proofs.YtcioejacijkbcaaGreatDoor.Bt
/- bits: PutVar; batch.fixed, batch.number. -/
namespace Go.Proofs.YtcioejacijkbcaaGreatDoor.Bt
open Go.RowKit Go.Maps Go.ChangeMaps Go.WideMaps Go.Proofs.YtcioejacijkbcaaGreatDoor.Su
set_option linter.unusedVariables false
theorem le_num (l : List UInt8) : le (num l) l.length = l := by
  induction l with
  | nil => rfl
  | cons b l ih =>
    simp only [num, List.length_cons, le]
    have h1 : (b.toNat + 256 * num l) % 256 = b.toNat := by have := UInt8.toNat_lt b; omega
    have h2 : (b.toNat + 256 * num l) / 256 = num l := by have := UInt8.toNat_lt b; omega
    rw [h1, h2, ih]
    simp
theorem extract_data (s : ByteArray) (a b : Nat) : (s.extract a b).data.toList = (s.data.toList.drop a).take (b - a) := by
  rw [ByteArray.data_extract, Array.toList_extract]
theorem extract_rest (s : ByteArray) (a : Nat) : (s.extract a s.size).data.toList = s.data.toList.drop a := by
  rw [extract_data]
  exact List.take_of_length_le (by rw [List.length_drop, Array.length_toList]; exact Nat.le_refl _)
theorem size_data (s : ByteArray) : s.size = s.data.toList.length := by rw [Array.length_toList]; rfl
set_option maxRecDepth 100000 in
theorem bnumber (W : World) (s : ByteArray) (a k : Nat) (h1 : 1 ≤ k) (h8 : k ≤ 8) (hs : a + k ≤ s.size) (hsz : s.size ≤ 1099511627776) (hv : num ((s.data.toList.drop a).take k) < 2 ^ 63) :
    Calls Tryz.prog 56 #[.string s, .int .i64 a, .int .i64 k] W fun e w' => e = .returned (.int .i64 (num ((s.data.toList.drop a).take k))) ∧ W = w' := by
  have HP := fixed W (s.extract a s.size) k h1 h8 (by rw [size_data, extract_rest, List.length_drop, ← size_data]; omega) (by rw [extract_rest]; exact hv)
  rw [extract_rest] at HP
  have HP := Lib.hid HP
  have has : a ≤ s.size := by omega
  clear hv
  go_enter Tryz.func56, Tryz.ntmps56
  go_wp2_with fail
  refine HP.out.mono ?_
  rintro e w1 ⟨rfl, rfl⟩
  go_wp2
  go_ret
  exact ⟨rfl, rfl⟩
set_option maxRecDepth 100000 in
theorem bnumber_over (W : World) (s : ByteArray) (a k : Nat) (h1 : 1 ≤ k) (h8 : k ≤ 8) (hs : a + k ≤ s.size) (hsz : s.size ≤ 1099511627776) (hv : ¬ num ((s.data.toList.drop a).take k) < 2 ^ 63) :
    Calls Tryz.prog 56 #[.string s, .int .i64 a, .int .i64 k] W fun e w' => e = .returned (.int .i64 (-1)) ∧ W = w' := by
  have HP := fixed_over W (s.extract a s.size) k h1 h8 (by rw [size_data, extract_rest, List.length_drop, ← size_data]; omega) (by rw [extract_rest]; exact hv)
  have HP := Lib.hid HP
  have has : a ≤ s.size := by omega
  clear hv
  go_enter Tryz.func56, Tryz.ntmps56
  go_wp2_with fail
  refine HP.out.mono ?_
  rintro e w1 ⟨rfl, rfl⟩
  go_wp2
  go_ret
  exact ⟨rfl, rfl⟩
end Go.Proofs.YtcioejacijkbcaaGreatDoor.Bt
