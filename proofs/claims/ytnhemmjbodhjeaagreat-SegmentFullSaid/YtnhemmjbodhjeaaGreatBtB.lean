/- bits: PutVar; batch.fixed, batch.number. -/
import Derived.Test.YtnhemmjbodhjeaaGreatBtA
import Derived.ArgAppend
import Derived.Maps.AppendAt
namespace Go.Proofs.YtnhemmjbodhjeaaGreat.Bt
open Go.RowKit Go.Maps Go.ChangeMaps Go.WideMaps Go.Proofs.YtnhemmjbodhjeaaGreat.Su
set_option linter.unusedVariables false
theorem le_num (l : List UInt8) : le (num l) l.length = l := by
  induction l with
  | nil => rfl
  | cons b l ih =>
    simp only [num, List.length_cons, le]
    have h1 : (b.toNat + 256 * num l) % 256 = b.toNat := by have := UInt8.toNat_lt b; omega
    have h2 : (b.toNat + 256 * num l) / 256 = num l := by have := UInt8.toNat_lt b; omega
    rw [h1, h2, ih]
    simp
theorem extract_data (s : ByteArray) (a b : Nat) : (s.extract a b).data.toList = (s.data.toList.drop a).take (b - a) := by
  rw [ByteArray.data_extract, Array.toList_extract]
theorem extract_rest (s : ByteArray) (a : Nat) : (s.extract a s.size).data.toList = s.data.toList.drop a := by
  rw [extract_data]
  exact List.take_of_length_le (by rw [List.length_drop, Array.length_toList]; exact Nat.le_refl _)
theorem size_data (s : ByteArray) : s.size = s.data.toList.length := by rw [Array.length_toList]; rfl
set_option maxRecDepth 100000 in
theorem bnumber (W : World) (s : ByteArray) (a k : Nat) (h1 : 1 ≤ k) (h8 : k ≤ 8) (hs : a + k ≤ s.size) (hsz : s.size ≤ 1099511627776) (hv : num ((s.data.toList.drop a).take k) < 2 ^ 63) :
    Calls Tryz.prog 58 #[.string s, .int .i64 a, .int .i64 k] W fun e w' => e = .returned (.int .i64 (num ((s.data.toList.drop a).take k))) ∧ W = w' := by
  have HP := fixed W (s.extract a s.size) k h1 h8 (by rw [size_data, extract_rest, List.length_drop, ← size_data]; omega) (by rw [extract_rest]; exact hv)
  rw [extract_rest] at HP
  have HP := Lib.hid HP
  have has : a ≤ s.size := by omega
  clear hv
  go_enter Tryz.func58, Tryz.ntmps58
  go_wp2_with fail
  refine HP.out.mono ?_
  rintro e w1 ⟨rfl, rfl⟩
  go_wp2
  go_ret
  exact ⟨rfl, rfl⟩
set_option maxRecDepth 100000 in
theorem bnumber_over (W : World) (s : ByteArray) (a k : Nat) (h1 : 1 ≤ k) (h8 : k ≤ 8) (hs : a + k ≤ s.size) (hsz : s.size ≤ 1099511627776) (hv : ¬ num ((s.data.toList.drop a).take k) < 2 ^ 63) :
    Calls Tryz.prog 58 #[.string s, .int .i64 a, .int .i64 k] W fun e w' => e = .returned (.int .i64 (-1)) ∧ W = w' := by
  have HP := fixed_over W (s.extract a s.size) k h1 h8 (by rw [size_data, extract_rest, List.length_drop, ← size_data]; omega) (by rw [extract_rest]; exact hv)
  have HP := Lib.hid HP
  have has : a ≤ s.size := by omega
  clear hv
  go_enter Tryz.func58, Tryz.ntmps58
  go_wp2_with fail
  refine HP.out.mono ?_
  rintro e w1 ⟨rfl, rfl⟩
  go_wp2
  go_ret
  exact ⟨rfl, rfl⟩
end Go.Proofs.YtnhemmjbodhjeaaGreat.Bt
