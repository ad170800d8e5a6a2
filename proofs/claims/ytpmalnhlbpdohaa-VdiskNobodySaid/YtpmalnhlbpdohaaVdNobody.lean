/- VdiskNobody returns true, whatever its arguments are. No condition. -/
import Derived.Test.YtpmalnhlbpdohaaVdN
namespace Go.Proofs.Ytpmalnhlbpdohaa.VdNobody
open Go.RowKit Go.Maps Go.ChangeMaps Go.WideMaps Go.Proofs.Ytpmalnhlbpdohaa.Vd
set_option linter.unusedVariables false
theorem le1 (i : Nat) (h : i < 2) : i = 0 ∨ i = 1 := by omega
set_option maxRecDepth 100000 in
set_option maxHeartbeats 1000000 in
theorem walk (n : Int) (_ : (Lit.int .i64 n).wf = true) (s : ByteArray) (_ : s.size ≤ 140737488351232) (w : World) :
    Calls Try.prog 8 #[.int .i64 n, .string s] w fun e w' => e = .returned (.bool true) ∧ Below w.heap.size w w' := by
  go_enter Try.func8, Try.ntmps8
  go_wp2_with fail
  have hb : Below w.heap.size w ((w.alloc (.cells #[.map none, .int .i64 0] 63)).alloc (.cells #[.pointer none, .pointer (some ⟨w.heap.size, 0, none⟩)] 43)) := ((Below.refl _ _).alloc (Nat.le_refl _) _).alloc (by simp) _
  have h1 : ((w.alloc (.cells #[.map none, .int .i64 0] 63)).alloc (.cells #[.pointer none, .pointer (some ⟨w.heap.size, 0, none⟩)] 43)).cell? ⟨w.heap.size, 0, none⟩ = some (.map none) := by go_simp
  have h2 : ((w.alloc (.cells #[.map none, .int .i64 0] 63)).alloc (.cells #[.pointer none, .pointer (some ⟨w.heap.size, 0, none⟩)] 43)).cell? ⟨w.heap.size + 1, 0, none⟩ = some (.pointer none) := by go_simp
  have h3 : ((w.alloc (.cells #[.map none, .int .i64 0] 63)).alloc (.cells #[.pointer none, .pointer (some ⟨w.heap.size, 0, none⟩)] 43)).cell? ⟨w.heap.size + 1, 1, none⟩ = some (.pointer (some ⟨w.heap.size, 0, none⟩)) := by go_simp
  generalize (w.alloc (.cells #[.map none, .int .i64 0] 63)).alloc (.cells #[.pointer none, .pointer (some ⟨w.heap.size, 0, none⟩)] 43) = W at hb h1 h2 h3 ⊢
  have hN0 : Nobody W none := by intro a ha; cases ha
  have hN1 : Nobody W (some ⟨w.heap.size, 0, none⟩) := by intro a ha; cases ha; exact ⟨_, rfl, h1⟩
  have H0 := Lib.hid hN0
  have H1 := Lib.hid hN1
  clear hN0 hN1 h1
  go_loop [6] (fun i => ∃ k : Nat, k ≤ 2 ∧ i = .int .i64 k) (fun i => 2 - (intOf i).toNat)
  case atStart => exact ⟨0, by omega, rfl⟩
  case round =>
    obtain ⟨k, hk, rfl⟩ := hrel
    rcases (show k = 0 ∨ k = 1 ∨ k = 2 from by omega) with rfl | rfl | rfl
    · have HN := H0
      go_wp2_with (first | (go_at_call 19; refine (append_nobody _ _ _ _ HN.out).mono ?_; rintro e w' ⟨rfl, rfl⟩) | (go_at_call 20; refine (sync_nobody _ _ _ HN.out).mono ?_; rintro e w' ⟨rfl, rfl⟩) | (go_at_call 29; refine (cut_nobody _ _ _ _ HN.out).mono ?_; rintro e w' ⟨rfl, rfl⟩) | (go_at_call 27; refine (rename_nobody _ _ _ _ HN.out).mono ?_; rintro e w' ⟨rfl, rfl⟩) | (go_at_call 26; refine (remove_nobody _ _ _ HN.out).mono ?_; rintro e w' ⟨rfl, rfl⟩) | (go_at_call 22; refine (read_nobody _ _ _ _ _ HN.out).mono ?_; rintro e w' ⟨rfl, rfl⟩) | (go_at_call 23; refine (size_nobody _ _ _ HN.out).mono ?_; rintro e w' ⟨rfl, rfl⟩) | (go_at_call 24; refine (synced_nobody _ _ _ HN.out).mono ?_; rintro e w' ⟨rfl, rfl⟩) | (go_at_call 25; refine (names_nobody _ _ HN.out).mono ?_; rintro e w' ⟨rfl, rfl⟩) | (go_at_call 28; refine (used_nobody _ _ HN.out).mono ?_; rintro e w' ⟨rfl, rfl⟩) | (go_at_call 21; refine (crash_nobody _ _ _ _ _ HN.out).mono ?_; rintro e w' ⟨rfl, rfl⟩) | (go_at_call 30; refine (copy_nobody _ _ HN.out).mono ?_; rintro e w' ⟨rfl, rfl⟩))
      go_round
      case rel => exact ⟨1, by omega, rfl⟩
      case measure => simp [intOf]
    · have HN := H1
      go_wp2_with (first | (go_at_call 19; refine (append_nobody _ _ _ _ HN.out).mono ?_; rintro e w' ⟨rfl, rfl⟩) | (go_at_call 20; refine (sync_nobody _ _ _ HN.out).mono ?_; rintro e w' ⟨rfl, rfl⟩) | (go_at_call 29; refine (cut_nobody _ _ _ _ HN.out).mono ?_; rintro e w' ⟨rfl, rfl⟩) | (go_at_call 27; refine (rename_nobody _ _ _ _ HN.out).mono ?_; rintro e w' ⟨rfl, rfl⟩) | (go_at_call 26; refine (remove_nobody _ _ _ HN.out).mono ?_; rintro e w' ⟨rfl, rfl⟩) | (go_at_call 22; refine (read_nobody _ _ _ _ _ HN.out).mono ?_; rintro e w' ⟨rfl, rfl⟩) | (go_at_call 23; refine (size_nobody _ _ _ HN.out).mono ?_; rintro e w' ⟨rfl, rfl⟩) | (go_at_call 24; refine (synced_nobody _ _ _ HN.out).mono ?_; rintro e w' ⟨rfl, rfl⟩) | (go_at_call 25; refine (names_nobody _ _ HN.out).mono ?_; rintro e w' ⟨rfl, rfl⟩) | (go_at_call 28; refine (used_nobody _ _ HN.out).mono ?_; rintro e w' ⟨rfl, rfl⟩) | (go_at_call 21; refine (crash_nobody _ _ _ _ _ HN.out).mono ?_; rintro e w' ⟨rfl, rfl⟩) | (go_at_call 30; refine (copy_nobody _ _ HN.out).mono ?_; rintro e w' ⟨rfl, rfl⟩))
      go_round
      case rel => exact ⟨2, by omega, rfl⟩
      case measure => simp [intOf]
    · go_wp2_with (go_at_call 18; refine (awake _).mono ?_; rintro e w' ⟨rfl, hbw⟩)
      go_ret
      exact ⟨rfl, hb.trans (hbw.mono hb.size)⟩
end Go.Proofs.Ytpmalnhlbpdohaa.VdNobody
