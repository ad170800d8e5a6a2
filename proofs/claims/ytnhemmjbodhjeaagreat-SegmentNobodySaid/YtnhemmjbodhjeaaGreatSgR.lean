/- SegmentNobody returns true, whatever its arguments are. No condition. -/
import Derived.Test.YtnhemmjbodhjeaaGreatSgQ
namespace Go.Proofs.YtnhemmjbodhjeaaGreat.Sg
open Go.RowKit Go.Maps Go.ChangeMaps Go.WideMaps Go.Proofs.YtnhemmjbodhjeaaGreat.Vd Go.Proofs.YtnhemmjbodhjeaaGreat.Rc Go.Proofs.YtnhemmjbodhjeaaGreat.Ba
set_option linter.unusedVariables false
/-- what Open says of a base, on an empty disk -/
theorem open_any {w : World} {bd bm room : Nat} (D : DiskAt w bd bm room []) (n : Int) :
    Calls Tryz.prog 16 #[.pointer (some ⟨bd, 0, none⟩), .string { data := #[115, 101, 103] }, .int .i64 n] w fun e w' => Below w.heap.size w w' ∧
      (((n < 0 ∨ 1099511627520 < n) ∧ e = .returned (.tuple #[.pointer none, .int .i64 0, .int .i64 1])) ∨ (0 ≤ n ∧ n ≤ 1099511627520 ∧ ∃ b, e = .returned (.tuple #[.pointer (some ⟨b, 0, none⟩), .int .i64 0, .int .i64 0]))) := by
  by_cases h : n < 0 ∨ 1099511627520 < n
  · refine (open_base D _ good_seg (by simp) n h).mono ?_
    rintro e w' ⟨rfl, hb⟩
    exact ⟨hb, .inl ⟨h, rfl⟩⟩
  · obtain ⟨m, rfl⟩ : ∃ m : Nat, n = m := ⟨n.toNat, by omega⟩
    refine (open_new D _ good_seg (by simp) m (by omega)).mono ?_
    rintro e w' ⟨b, rfl, _, _, hb⟩
    exact ⟨hb, .inr ⟨by omega, by omega, b, rfl⟩⟩
set_option maxRecDepth 100000 in
set_option maxHeartbeats 2000000 in
theorem walk_nobody (n : Int) (_ : (Lit.int .i64 n).wf = true) (s : ByteArray) (_ : s.size ≤ 140737488351232) (w : World) :
    Calls Tryz.prog 7 #[.int .i64 n, .string s] w fun e w' => e = .returned (.bool true) ∧ Below w.heap.size w w' := by
  go_enter Tryz.func7, Tryz.ntmps7
  go_wp2_with fail
  refine (open_arg w none _ 0 (read_nobody w none _ _ _ (fun a ha => by cases ha))).mono ?_
  rintro e w0 ⟨rfl, rfl⟩
  go_wp2_with fail
  refine (new_disk w 99 (by omega)).mono ?_
  rintro e w1 ⟨rfl, O1⟩
  have H1 := Lib.hid O1
  clear O1
  go_wp2_with fail
  refine (open_any H1.out.disk n).mono ?_
  rintro e w2 ⟨hb2, hor⟩
  have H2 := Lib.hid (H1.out.more (Nat.le_refl _) hb2)
  clear hb2 H1
  obtain ⟨p, m, ok, hp, he, hq⟩ : ∃ (p : Option Addr) (er : Int) (ok : Bool), e = .returned (.tuple #[.pointer p, .int .i64 0, .int .i64 er]) ∧ p.isSome = ok ∧ ((ok = true ∧ er = 0 ∧ 0 ≤ n ∧ n ≤ 1099511627520) ∨ (ok = false ∧ er = 1 ∧ (n < 0 ∨ 1099511627520 < n))) := by
    rcases hor with ⟨hn, rfl⟩ | ⟨hn0, hn1, b, rfl⟩
    · exact ⟨none, 1, false, rfl, rfl, .inr ⟨rfl, rfl, hn⟩⟩
    · exact ⟨some ⟨b, 0, none⟩, 0, true, rfl, rfl, .inl ⟨rfl, rfl, hn0, hn1⟩⟩
  clear hor
  subst hp
  go_wp2_with fail
  refine (open_arg w2 _ _ 0 (read_empty H2.out.disk 0 0)).mono ?_
  rintro e w3 ⟨rfl, rfl⟩
  have hb : Below w.heap.size w ((w2.alloc (.cells #[.pointer none, .string ⟨#[]⟩, .int .i64 0, .int .i64 0, .int .i64 0, .int .i64 0, .slice none 0 0] 58)).alloc (.cells #[.pointer none, .pointer (some ⟨w2.heap.size, 0, none⟩)] 37)) := H2.out.below.trans (((Below.refl _ _).alloc (Nat.le_refl _) _).alloc (by simp) _ |>.mono H2.out.below.size)
  have h1 : ((w2.alloc (.cells #[.pointer none, .string ⟨#[]⟩, .int .i64 0, .int .i64 0, .int .i64 0, .int .i64 0, .slice none 0 0] 58)).alloc (.cells #[.pointer none, .pointer (some ⟨w2.heap.size, 0, none⟩)] 37)).cell? ⟨w2.heap.size, 0, none⟩ = some (.pointer none) := by go_simp
  have h2 : ((w2.alloc (.cells #[.pointer none, .string ⟨#[]⟩, .int .i64 0, .int .i64 0, .int .i64 0, .int .i64 0, .slice none 0 0] 58)).alloc (.cells #[.pointer none, .pointer (some ⟨w2.heap.size, 0, none⟩)] 37)).cell? ⟨w2.heap.size + 1, 0, none⟩ = some (.pointer none) := by go_simp
  have h3 : ((w2.alloc (.cells #[.pointer none, .string ⟨#[]⟩, .int .i64 0, .int .i64 0, .int .i64 0, .int .i64 0, .slice none 0 0] 58)).alloc (.cells #[.pointer none, .pointer (some ⟨w2.heap.size, 0, none⟩)] 37)).cell? ⟨w2.heap.size + 1, 1, none⟩ = some (.pointer (some ⟨w2.heap.size, 0, none⟩)) := by go_simp
  have HB := Lib.hid hb
  have HC1 := Lib.hid h1
  have HC2 := Lib.hid h2
  have HC3 := Lib.hid h3
  clear hb h1 h2 h3
  obtain ⟨k7, hk7⟩ : ∃ k7 : Unit, True := ⟨(), trivial⟩
  rcases (show (p.isSome = true ∧ m = 0 ∧ 0 ≤ n ∧ n ≤ 1099511627520) ∨ (p.isSome = false ∧ m = 1 ∧ n < 0) ∨ (p.isSome = false ∧ m = 1 ∧ ¬ n < 0 ∧ 1099511627520 < n) by
      rcases hq with ⟨a, b, c, d⟩ | ⟨a, b, c⟩ <;> rw [a] at he
      · exact .inl ⟨he, b, c, d⟩
      · by_cases h0 : n < 0
        · exact .inr (.inl ⟨he, b, h0⟩)
        · exact .inr (.inr ⟨he, b, h0, by omega⟩)) with ⟨hp, rfl, g0, g1⟩ | ⟨hp, rfl, g0⟩ | ⟨hp, rfl, g0, g1⟩
  case' inl => (obtain ⟨a, rfl⟩ := Option.isSome_iff_exists.1 hp)
  case' inr.inl => (obtain rfl : p = none := by cases p <;> first | rfl | cases hp)
  case' inr.inr => (obtain rfl : p = none := by cases p <;> first | rfl | cases hp)
  all_goals
    clear hq he hp
    try have g2 : ¬ n ≤ 1099511627520 := by omega
    try have g3 : ¬ 0 ≤ n := by omega
    try have g4 : 0 ≤ n := by omega
    clear hk7
    go_wp2_with fail
    generalize (w2.alloc (.cells #[.pointer none, .string ⟨#[]⟩, .int .i64 0, .int .i64 0, .int .i64 0, .int .i64 0, .slice none 0 0] 58)).alloc (.cells #[.pointer none, .pointer (some ⟨w2.heap.size, 0, none⟩)] 37) = W at HB HC1 HC2 HC3 ⊢
    have hN0 : Nobody W none := by intro a ha; cases ha
    have hN1 : Nobody W (some ⟨w2.heap.size, 0, none⟩) := by intro a ha; cases ha; exact ⟨_, rfl, HC1.out⟩
    have H0 := Lib.hid hN0
    have H1 := Lib.hid hN1
    have h2 := HC2.out
    have h3 := HC3.out
    clear hN0 hN1
    go_loop [17] (fun i => ∃ k : Nat, k ≤ 2 ∧ i = .int .i64 k) (fun i => 2 - (intOf i).toNat)
    case atStart => exact ⟨0, by omega, rfl⟩
    case round =>
      obtain ⟨k, hk, rfl⟩ := hrel
      rcases (show k = 0 ∨ k = 1 ∨ k = 2 from by omega) with rfl | rfl | rfl
      · have HN := H0
        go_wp2_with (first | (go_at_call 25; refine (batch_nobody _ _ _ HN.out).mono ?_; rintro e w' ⟨rfl, rfl⟩) | (go_at_call 20; refine (append_nobody _ _ _ HN.out).mono ?_; rintro e w' ⟨rfl, rfl⟩) | (go_at_call 26; refine (sync_nobody _ _ HN.out).mono ?_; rintro e w' ⟨rfl, rfl⟩) | (go_at_call 27; refine (cut_nobody _ _ _ HN.out).mono ?_; rintro e w' ⟨rfl, rfl⟩) | (go_at_call 28; refine (base_nobody _ _ HN.out).mono ?_; rintro e w' ⟨rfl, rfl⟩) | (go_at_call 22; refine (end_nobody _ _ HN.out).mono ?_; rintro e w' ⟨rfl, rfl⟩) | (go_at_call 19; refine (size_nobody _ _ HN.out).mono ?_; rintro e w' ⟨rfl, rfl⟩) | (go_at_call 29; refine (len_nobody _ _ HN.out).mono ?_; rintro e w' ⟨rfl, rfl⟩))
        go_round
        case rel => exact ⟨1, by omega, rfl⟩
        case measure => simp [intOf]
      · have HN := H1
        go_wp2_with (first | (go_at_call 25; refine (batch_nobody _ _ _ HN.out).mono ?_; rintro e w' ⟨rfl, rfl⟩) | (go_at_call 20; refine (append_nobody _ _ _ HN.out).mono ?_; rintro e w' ⟨rfl, rfl⟩) | (go_at_call 26; refine (sync_nobody _ _ HN.out).mono ?_; rintro e w' ⟨rfl, rfl⟩) | (go_at_call 27; refine (cut_nobody _ _ _ HN.out).mono ?_; rintro e w' ⟨rfl, rfl⟩) | (go_at_call 28; refine (base_nobody _ _ HN.out).mono ?_; rintro e w' ⟨rfl, rfl⟩) | (go_at_call 22; refine (end_nobody _ _ HN.out).mono ?_; rintro e w' ⟨rfl, rfl⟩) | (go_at_call 19; refine (size_nobody _ _ HN.out).mono ?_; rintro e w' ⟨rfl, rfl⟩) | (go_at_call 29; refine (len_nobody _ _ HN.out).mono ?_; rintro e w' ⟨rfl, rfl⟩))
        go_round
        case rel => exact ⟨2, by omega, rfl⟩
        case measure => simp [intOf]
      · go_wp2_with (go_at_call 11; refine (awake _).mono ?_; rintro e w' ⟨rfl, hbw⟩)
        go_ret
        exact ⟨rfl, HB.out.trans (hbw.mono HB.out.size)⟩
end Go.Proofs.YtnhemmjbodhjeaaGreat.Sg
