/- The plain law of BoundRounds: of the printed functions. No condition. -/
import Derived.Test.YtpmalnhlbpdohaaPBoundRoundsx6
import Derived.KernelRfl
namespace Go.Proofs.Ytpmalnhlbpdohaa.PureRounds
open Go.RowKit Go.Proofs.Ytpmalnhlbpdohaa.PBoundRounds Go.Proofs.YtpmalnhlbpdohaaW.PrintWords Go.Proofs.YtpmalnhlbpdohaaW.PrintLast

/-- which configurations may be -/
def Ok (n c q s d o p : Int) : Prop := (n = 3 ∨ n = 5 ∨ n = 7) ∧ 1 ≤ c ∧ c ≤ 16 ∧ 1 ≤ q ∧ q ≤ 64 ∧ 1 ≤ s ∧ s ≤ 16777216 ∧ 1000 ≤ d ∧ d ≤ 16777216 ∧ 0 ≤ o ∧ o ≤ 2 ∧ 1 ≤ p ∧ p ≤ 100
instance (n c q s d o p : Int) : Decidable (Ok n c q s d o p) := by unfold Ok; infer_instance
theorem in_f (a b c : Int) : replica_in.f a b c = some (decide (b ≤ a ∧ a ≤ c)) := by
  unfold replica_in.f
  split <;> simp <;> omega
theorem check_yes {n c q s d o p : Int} (h : Ok n c q s d o p) : replica_Check.f n c q s d o p = some 0 := by
  obtain ⟨hn, h1, h2, h3, h4, h5, h6, h7, h8, h9, h10, h11, h12⟩ := h
  unfold replica_Check.f
  simp only [in_f, Option.bind_some, decide_eq_true_eq]
  rcases hn with rfl | rfl | rfl <;> simp [*]
theorem check_no {n c q s d o p : Int} (h : ¬ Ok n c q s d o p) : replica_Check.f n c q s d o p = some 1 := by
  unfold replica_Check.f
  simp only [in_f, Option.bind_some, decide_eq_true_eq]
  unfold Ok at h
  repeat' split
  all_goals first | rfl | (exfalso; apply h; omega)
theorem ite_some {α : Type} {c : Prop} [Decidable c] {a b r : Option α} (h1 : c → a = r) (h2 : ¬ c → b = r) : (if c then a else b) = r := by
  by_cases h : c
  · rw [if_pos h]; exact h1 h
  · rw [if_neg h]; exact h2 h
theorem config_yes {n c q s d o p : Int} (h : Ok n c q s d o p) : postroadtold_Config.f n c q s d o p = some true := by
  obtain ⟨hn, h1, h2, h3, h4, h5, h6, h7, h8, h9, h10, h11, h12⟩ := h
  unfold postroadtold_Config.f
  rcases hn with rfl | rfl | rfl <;> simp [*]
theorem config_no {n c q s d o p : Int} (h : ¬ Ok n c q s d o p) : postroadtold_Config.f n c q s d o p = some false := by
  unfold postroadtold_Config.f
  unfold Ok at h
  repeat' (refine ite_some ?_ ?_ <;> intro _)
  all_goals first | rfl | (rw [decide_eq_false (fun hh : p ≤ 100 => h (by omega))])
theorem rounds_no {n c q s d o p : Int} (g : Int) (h : ¬ Ok n c q s d o p) : bound_Rounds.f n c q s d o p g = some (0, 1) := by
  unfold bound_Rounds.f
  rw [check_no h]; rfl
theorem rounds_yes {n c q s d o p : Int} {g : Int} (h : Ok n c q s d o p) (h0 : 0 ≤ g) (h1 : g ≤ 65536) : bound_Rounds.f n c q s d o p g = some ((n + 2) * (2 * p + 8) + g * (4 * n + 4), 0) := by
  unfold bound_Rounds.f
  rw [check_yes h]
  simp only [Option.bind_some, if_true]
  rw [if_neg (by omega), if_neg (by omega)]
  obtain ⟨hn, -, -, -, -, -, -, -, -, -, -, h11, h12⟩ := h
  have e1 : wrap64 (2 * p) = 2 * p := by unfold wrap64; omega
  have e2 : wrap64 (2 * p + 8) = 2 * p + 8 := by unfold wrap64; omega
  have k1 : wrap64 (wrap64 (4 * 3) + 4) = 16 := by unfold wrap64; omega
  have k2 : wrap64 (wrap64 (4 * 5) + 4) = 24 := by unfold wrap64; omega
  have k3 : wrap64 (wrap64 (4 * 7) + 4) = 32 := by unfold wrap64; omega
  have k4 : wrap64 (3 + 2) = 5 := by unfold wrap64; omega
  have k5 : wrap64 (5 + 2) = 7 := by unfold wrap64; omega
  have k6 : wrap64 (7 + 2) = 9 := by unfold wrap64; omega
  rcases hn with rfl | rfl | rfl
  · rw [e1, e2, k1, k4, show wrap64 (5 * (2 * p + 8)) = 5 * (2 * p + 8) from by unfold wrap64; omega, show wrap64 (g * 16) = g * 16 from by unfold wrap64; omega, show wrap64 (5 * (2 * p + 8) + g * 16) = (3 + 2) * (2 * p + 8) + g * (4 * 3 + 4) from by unfold wrap64; omega]
  · rw [e1, e2, k2, k5, show wrap64 (7 * (2 * p + 8)) = 7 * (2 * p + 8) from by unfold wrap64; omega, show wrap64 (g * 24) = g * 24 from by unfold wrap64; omega, show wrap64 (7 * (2 * p + 8) + g * 24) = (5 + 2) * (2 * p + 8) + g * (4 * 5 + 4) from by unfold wrap64; omega]
  · rw [e1, e2, k3, k6, show wrap64 (9 * (2 * p + 8)) = 9 * (2 * p + 8) from by unfold wrap64; omega, show wrap64 (g * 32) = g * 32 from by unfold wrap64; omega, show wrap64 (9 * (2 * p + 8) + g * 32) = (7 + 2) * (2 * p + 8) + g * (4 * 7 + 4) from by unfold wrap64; omega]
theorem awake : postroadlaw19_awake.f 20 = some true := by decide +kernel
theorem awake' (k : Nat) : postroadlaw19_awake.f (k + 20) = some true := by
  induction k with
  | zero => exact awake
  | succ k ih => have := postroadlaw19_awake.mono (k + 20) _ ih; rw [show k + 1 + 20 = k + 20 + 1 from by omega]; exact this

theorem told_rounds (n c q s d o p g : Int) (h : Ok n c q s d o p) (h0 : 0 ≤ g) (h1 : g ≤ 65536) : bound_Rounds.f n c q s d o p g = (postroadtold_Rounds.f n c q s d o p g).map (fun x => (x, 0)) := by
  unfold bound_Rounds.f postroadtold_Rounds.f
  rw [check_yes h]
  simp only [Option.bind_some, if_true]
  rw [if_neg (by omega), if_neg (by omega)]; rfl
theorem l1_eq (n c q s d o p : Int) (k : Nat) : ∀ x i, bound_Calm.l1 k x n i n c q s d o p = (postroadtold_Calm.l1 k x i n c q s d o p).map (fun l => (l, 0)) := by
  induction k with
  | zero => intro x i; rfl
  | succ k ih =>
    intro x i
    simp only [bound_Calm.l1, postroadtold_Calm.l1]
    by_cases h1 : i < n
    · rw [if_pos h1, if_pos h1]
      by_cases h2 : x.length < 1759218604441
      · rw [if_pos h2, if_pos h2]; exact ih _ _
      · rw [if_neg h2, if_neg h2]; rfl
    · rw [if_neg h1, if_neg h1]
      by_cases h2 : x.length < 1759218604441
      · rw [if_pos h2, if_pos h2]; rfl
      · rw [if_neg h2, if_neg h2]; rfl
theorem l0_eq (n c q s d o p : Int) (k : Nat) : ∀ x i, bound_Calm.l0 k x c i n c q s d o p = (postroadtold_Calm.l0 k x i n c q s d o p).map (fun l => (l, 0)) := by
  induction k with
  | zero => intro x i; rfl
  | succ k ih =>
    intro x i
    simp only [bound_Calm.l0, postroadtold_Calm.l0]
    by_cases h1 : i < c
    · rw [if_pos h1, if_pos h1]
      by_cases h2 : x.length < 1759218604441
      · rw [if_pos h2, if_pos h2]; exact ih _ _
      · rw [if_neg h2, if_neg h2]; rfl
    · rw [if_neg h1, if_neg h1]; exact l1_eq n c q s d o p k _ _
def L (k : Nat) (n c : Int) : List S39 := (postroadtold_Calm.l0 k [] 0 n c 0 0 0 0 0).getD []
theorem told_L {n c : Int} (q s d o p : Int) (hn : n = 3 ∨ n = 5 ∨ n = 7) (h1 : 1 ≤ c) (h2 : c ≤ 16) : postroadtold_Calm.l0 100 [] 0 n c q s d o p = some (L 98 n c) ∧ postroadtold_Calm.l0 98 [] 0 n c q s d o p = some (L 98 n c) ∧ postroadtold_SameSteps.f 98 (L 98 n c) (L 98 n c) = some true := by
  have hc : c = 1 ∨ c = 2 ∨ c = 3 ∨ c = 4 ∨ c = 5 ∨ c = 6 ∨ c = 7 ∨ c = 8 ∨ c = 9 ∨ c = 10 ∨ c = 11 ∨ c = 12 ∨ c = 13 ∨ c = 14 ∨ c = 15 ∨ c = 16 := by omega
  rcases hn with rfl | rfl | rfl <;> rcases hc with rfl | rfl | rfl | rfl | rfl | rfl | rfl | rfl | rfl | rfl | rfl | rfl | rfl | rfl | rfl | rfl <;> exact ⟨by kernel_rfl, by kernel_rfl, by kernel_rfl⟩
def St (n : Int) : List S39 := ((bound_Starts.l0 100 [] n 0).map (·.1)).getD []
theorem starts_L {n : Int} (hn : n = 3 ∨ n = 5 ∨ n = 7) : bound_Starts.l0 100 [] n 0 = some (St n, 0) ∧ ((St n).length : Int) = n ∧ ∃ j, postroadlaw19_BoundRounds.l0 97 (St n) 0 = (postroadlaw19_awake.f (j + 20)).bind fun t => some t := by
  rcases hn with rfl | rfl | rfl
  · exact ⟨by kernel_rfl, by kernel_rfl, 73, by kernel_rfl⟩
  · exact ⟨by kernel_rfl, by kernel_rfl, 71, by kernel_rfl⟩
  · exact ⟨by kernel_rfl, by kernel_rfl, 69, by kernel_rfl⟩
theorem rounds (n c q s d o p g : Int) : ∃ k, postroadlaw19_BoundRounds.f k n c q s d o p g = some true := by
  refine ⟨100, ?_⟩
  unfold postroadlaw19_BoundRounds.f
  by_cases h : Ok n c q s d o p
  · have hO := h
    obtain ⟨hn, h1, h2, -, -, -, -, -, -, -, -, -, -⟩ := h
    obtain ⟨e1, e2, e3⟩ := told_L q s d o p hn h1 h2
    obtain ⟨f1, f2, j, f3⟩ := starts_L hn
    have calm : bound_Calm.f 100 n c q s d o p = some (L 98 n c, 0) := by
      unfold bound_Calm.f
      rw [check_yes hO]; simp only [Option.bind_some, if_true]
      rw [l0_eq, e1]; rfl
    have starts : bound_Starts.f 100 n c q s d o p = some (St n, 0) := by
      unfold bound_Starts.f
      rw [check_yes hO]; simp only [Option.bind_some, if_true]
      exact f1
    have tail : postroadlaw19_BoundRounds.j1 99 (L 98 n c) 0 (St n) 0 n c q s d o p = some true := by
      simp only [postroadlaw19_BoundRounds.j1]
      rw [if_pos trivial, if_pos trivial]
      unfold postroadtold_Calm.f
      rw [e2]; simp only [Option.bind_some]
      rw [e3]; simp only [Option.bind_some, if_true]
      simp only [postroadlaw19_BoundRounds.j2]
      rw [if_neg (by rw [f2]; simp), f3, awake' j]; rfl
    rw [calm, starts, config_yes hO]
    by_cases hg : 0 ≤ g ∧ g ≤ 65536
    · rw [told_rounds _ _ _ _ _ _ _ _ hO hg.1 hg.2]
      unfold postroadtold_Rounds.f
      simp only [Option.map_some, Option.bind_some, if_true]
      rw [if_neg (by omega)]
      simp only [postroadlaw19_BoundRounds.j0]
      rw [if_neg (by simp; omega), if_pos trivial]
      unfold postroadtold_Rounds.f
      simp only [Option.bind_some, if_true]
      exact tail
    · have bad : bound_Rounds.f n c q s d o p g = some (0, 1) := by
        unfold bound_Rounds.f
        rw [check_yes hO]; simp only [Option.bind_some, if_true]
        by_cases h0 : g < 0
        · rw [if_pos h0]
        · rw [if_neg h0, if_pos (by omega)]
      rw [bad]
      simp only [Option.bind_some, if_true]
      by_cases h0 : g < 0
      · rw [if_pos h0]
        simp only [postroadlaw19_BoundRounds.j0]
        rw [if_pos trivial, if_pos trivial, if_pos trivial]
        exact tail
      · rw [if_neg h0, decide_eq_true (by omega : g > 65536)]
        simp only [postroadlaw19_BoundRounds.j0]
        rw [if_pos trivial, if_pos trivial, if_pos trivial]
        exact tail
  · have calm : bound_Calm.f 100 n c q s d o p = some ([], 1) := by unfold bound_Calm.f; rw [check_no h]; rfl
    have starts : bound_Starts.f 100 n c q s d o p = some ([], 1) := by unfold bound_Starts.f; rw [check_no h]; rfl
    rw [rounds_no _ h, calm, starts, config_no h]
    simp only [Option.bind_some]
    rw [if_neg (by decide), if_pos trivial, if_pos trivial, if_pos trivial, if_pos trivial, if_pos (by simp [wrap64]), awake' 80]
    rfl
end Go.Proofs.Ytpmalnhlbpdohaa.PureRounds
