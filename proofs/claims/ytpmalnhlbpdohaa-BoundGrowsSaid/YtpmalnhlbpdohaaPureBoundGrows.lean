/- The plain law of BoundGrows: of the printed functions. No condition beside that the numbers are of their kind. -/
import Derived.Test.YtpmalnhlbpdohaaPBoundGrowsx3
namespace Go.Proofs.Ytpmalnhlbpdohaa.PureGrows
open Go.RowKit Go.Proofs.Ytpmalnhlbpdohaa.PBoundGrows Go.Proofs.YtpmalnhlbpdohaaW.PrintWords Go.Proofs.YtpmalnhlbpdohaaW.PrintLast

/-- which configurations may be -/
def Ok (n c q s d o p : Int) : Prop := (n = 3 ∨ n = 5 ∨ n = 7) ∧ 1 ≤ c ∧ c ≤ 16 ∧ 1 ≤ q ∧ q ≤ 64 ∧ 1 ≤ s ∧ s ≤ 16777216 ∧ 1000 ≤ d ∧ d ≤ 16777216 ∧ 0 ≤ o ∧ o ≤ 2 ∧ 1 ≤ p ∧ p ≤ 100
instance (n c q s d o p : Int) : Decidable (Ok n c q s d o p) := by unfold Ok; infer_instance
theorem and4095 (n : Int) : bits .and .i64 n 4095 = n % 4096 := by
  have h127 : (BitVec.ofInt 64 4095).toNat = 2 ^ 12 - 1 := by decide
  have key : (BitVec.ofInt 64 n &&& BitVec.ofInt 64 4095).toNat = (n % ((2 ^ 64 : Nat) : Int)).toNat % 2 ^ 12 := by
    rw [BitVec.toNat_and, BitVec.toNat_ofInt, h127, Nat.and_two_pow_sub_one_eq_mod]
  show IntKind.i64.wrap ((BitVec.ofInt 64 n &&& BitVec.ofInt 64 4095).toNat : Nat) = n % 4096
  rw [key, IntKind.wrap_i64]
  omega
theorem in_f (a b c : Int) : replica_in.f a b c = some (decide (b ≤ a ∧ a ≤ c)) := by
  unfold replica_in.f
  split <;> simp <;> omega
theorem check_yes {n c q s d o p : Int} (h : Ok n c q s d o p) : replica_Check.f n c q s d o p = some 0 := by
  obtain ⟨hn, h1, h2, h3, h4, h5, h6, h7, h8, h9, h10, h11, h12⟩ := h
  unfold replica_Check.f
  simp only [in_f, Option.bind_some, decide_eq_true_eq]
  rcases hn with rfl | rfl | rfl <;> simp [*]
theorem check_no {n c q s d o p : Int} (h : ¬ Ok n c q s d o p) : replica_Check.f n c q s d o p = some 1 := by
  unfold replica_Check.f
  simp only [in_f, Option.bind_some, decide_eq_true_eq]
  unfold Ok at h
  repeat' split
  all_goals first | rfl | (exfalso; apply h; omega)
theorem ite_some {α : Type} {c : Prop} [Decidable c] {a b r : Option α} (h1 : c → a = r) (h2 : ¬ c → b = r) : (if c then a else b) = r := by
  by_cases h : c
  · rw [if_pos h]; exact h1 h
  · rw [if_neg h]; exact h2 h
theorem config_no {n c q s d o p : Int} (h : ¬ Ok n c q s d o p) : postroadtold_Config.f n c q s d o p = some false := by
  unfold postroadtold_Config.f
  unfold Ok at h
  repeat' (refine ite_some ?_ ?_ <;> intro _)
  all_goals first | rfl | (rw [decide_eq_false (fun hh : p ≤ 100 => h (by omega))])
theorem rounds_no {n c q s d o p : Int} (g : Int) (h : ¬ Ok n c q s d o p) : bound_Rounds.f n c q s d o p g = some (0, 1) := by
  unfold bound_Rounds.f
  rw [check_no h]; rfl
theorem rounds_yes {n c q s d o p : Int} {g : Int} (h : Ok n c q s d o p) (h0 : 0 ≤ g) (h1 : g ≤ 65536) : bound_Rounds.f n c q s d o p g = some ((n + 2) * (2 * p + 8) + g * (4 * n + 4), 0) := by
  unfold bound_Rounds.f
  rw [check_yes h]
  simp only [Option.bind_some, if_true]
  rw [if_neg (by omega), if_neg (by omega)]
  obtain ⟨hn, -, -, -, -, -, -, -, -, -, -, h11, h12⟩ := h
  have e1 : wrap64 (2 * p) = 2 * p := by unfold wrap64; omega
  have e2 : wrap64 (2 * p + 8) = 2 * p + 8 := by unfold wrap64; omega
  have k1 : wrap64 (wrap64 (4 * 3) + 4) = 16 := by unfold wrap64; omega
  have k2 : wrap64 (wrap64 (4 * 5) + 4) = 24 := by unfold wrap64; omega
  have k3 : wrap64 (wrap64 (4 * 7) + 4) = 32 := by unfold wrap64; omega
  have k4 : wrap64 (3 + 2) = 5 := by unfold wrap64; omega
  have k5 : wrap64 (5 + 2) = 7 := by unfold wrap64; omega
  have k6 : wrap64 (7 + 2) = 9 := by unfold wrap64; omega
  rcases hn with rfl | rfl | rfl
  · rw [e1, e2, k1, k4, show wrap64 (5 * (2 * p + 8)) = 5 * (2 * p + 8) from by unfold wrap64; omega, show wrap64 (g * 16) = g * 16 from by unfold wrap64; omega, show wrap64 (5 * (2 * p + 8) + g * 16) = (3 + 2) * (2 * p + 8) + g * (4 * 3 + 4) from by unfold wrap64; omega]
  · rw [e1, e2, k2, k5, show wrap64 (7 * (2 * p + 8)) = 7 * (2 * p + 8) from by unfold wrap64; omega, show wrap64 (g * 24) = g * 24 from by unfold wrap64; omega, show wrap64 (7 * (2 * p + 8) + g * 24) = (5 + 2) * (2 * p + 8) + g * (4 * 5 + 4) from by unfold wrap64; omega]
  · rw [e1, e2, k3, k6, show wrap64 (9 * (2 * p + 8)) = 9 * (2 * p + 8) from by unfold wrap64; omega, show wrap64 (g * 32) = g * 32 from by unfold wrap64; omega, show wrap64 (9 * (2 * p + 8) + g * 32) = (7 + 2) * (2 * p + 8) + g * (4 * 7 + 4) from by unfold wrap64; omega]
theorem awake : postroadlaw19_awake.f 20 = some true := by decide +kernel
theorem awake' (k : Nat) : postroadlaw19_awake.f (k + 20) = some true := by
  induction k with
  | zero => exact awake
  | succ k ih => have := postroadlaw19_awake.mono (k + 20) _ ih; rw [show k + 1 + 20 = k + 20 + 1 from by omega]; exact this
theorem grows (n c q s d o p a b : Int) : ∃ k, postroadlaw19_BoundGrows.f k n c q s d o p a b = some true := by
  refine ⟨22, ?_⟩
  unfold postroadlaw19_BoundGrows.f
  rw [and4095, and4095]
  generalize hx : a % 4096 = x
  generalize hy : b % 4096 = y
  have hx0 : 0 ≤ x ∧ x < 4096 := by omega
  have hy0 : 0 ≤ y ∧ y < 4096 := by omega
  have hw : wrap64 (x + y) = x + y := by unfold wrap64; omega
  rw [hw]
  by_cases h : Ok n c q s d o p
  · rw [rounds_yes h hx0.1 (by omega), rounds_yes h (by omega : 0 ≤ x + y) (by omega)]
    simp only [Option.bind_some, if_true]
    simp only [postroadlaw19_BoundGrows.j0]
    rw [if_neg (by decide)]
    have step : ∀ n' p' : Int, Ok n' c q s d o p' → n ≤ n' → p ≤ p' → n' = n ∨ n' = n + 2 → p' = p ∨ p' = p + 1 →
      ((bound_Rounds.f n' c q s d o p' x).bind fun bt154 => (if bt154.2 = 0 then (if (n + 2) * (2 * p + 8) + (x + y) * (4 * n + 4) ≥ (n + 2) * (2 * p + 8) + x * (4 * n + 4) then (if bt154.1 ≥ (n + 2) * (2 * p + 8) + x * (4 * n + 4) then ((postroadlaw19_awake.f 20).bind fun t156 => (some t156)) else (some false)) else (some false)) else (some false))) = some true := by
      intro n' p' h' hn hp en ep
      rw [rounds_yes h' hx0.1 (by omega)]
      simp only [Option.bind_some, if_true]
      obtain ⟨hn3, -, -, -, -, -, -, -, -, -, -, h11, h12⟩ := h
      obtain ⟨hn3', -, -, -, -, -, -, -, -, -, -, h11', h12'⟩ := h'
      rw [if_pos (by rcases hn3 with rfl | rfl | rfl <;> omega), if_pos (by rcases hn3 with rfl | rfl | rfl <;> rcases en with rfl | rfl <;> omega), awake]; rfl
    have hO := h
    obtain ⟨hn3, a1, a2, a3, a4, a5, a6, a7, a8, a9, a10, h11, h12⟩ := h
    by_cases c1 : p < 100
    · rw [if_pos c1, show wrap64 (p + 1) = p + 1 from by unfold wrap64; omega]
      simp only [postroadlaw19_BoundGrows.j1]
      by_cases c2 : n < 7
      · rw [if_pos c2, show wrap64 (n + 2) = n + 2 from by unfold wrap64; omega]
        exact step _ _ ⟨by omega, a1, a2, a3, a4, a5, a6, a7, a8, a9, a10, by omega, by omega⟩ (by omega) (by omega) (by omega) (by omega)
      · rw [if_neg c2]
        exact step _ _ ⟨by omega, a1, a2, a3, a4, a5, a6, a7, a8, a9, a10, by omega, by omega⟩ (by omega) (by omega) (by omega) (by omega)
    · rw [if_neg c1]
      simp only [postroadlaw19_BoundGrows.j1]
      by_cases c2 : n < 7
      · rw [if_pos c2, show wrap64 (n + 2) = n + 2 from by unfold wrap64; omega]
        exact step _ _ ⟨by omega, a1, a2, a3, a4, a5, a6, a7, a8, a9, a10, by omega, by omega⟩ (by omega) (by omega) (by omega) (by omega)
      · rw [if_neg c2]
        exact step _ _ ⟨by omega, a1, a2, a3, a4, a5, a6, a7, a8, a9, a10, by omega, by omega⟩ (by omega) (by omega) (by omega) (by omega)
  · rw [rounds_no _ h, rounds_no _ h]
    simp only [Option.bind_some]
    rw [if_neg (by decide)]
    simp only [postroadlaw19_BoundGrows.j0]
    rw [if_pos trivial, config_no h]
    simp only [Option.bind_some]
    rw [if_neg (by decide), if_pos trivial, if_pos trivial, awake' 1]
    rfl
end Go.Proofs.Ytpmalnhlbpdohaa.PureGrows
