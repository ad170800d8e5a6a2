/- batch: plain whole, Check, codecs. -/
import Derived.Test.YtcioejacijkbcaaGreatDoorBaA
namespace Go.Proofs.YtcioejacijkbcaaGreatDoor.Ba
open Go.RowKit Go.Maps Go.ChangeMaps Go.WideMaps Go.Proofs.YtcioejacijkbcaaGreatDoor.Su Go.Proofs.YtcioejacijkbcaaGreatDoor.Bt Go.Proofs.YtcioejacijkbcaaGreatDoor.Sb Go.Proofs.YtcioejacijkbcaaGreatDoor.Rc Go.Proofs.YtcioejacijkbcaaGreatDoor.Rg
set_option linter.unusedVariables false
set_option maxRecDepth 100000 in
set_option maxHeartbeats 1000000 in
/-- record.Bytes at a base that may not be -/
theorem bytes_out (w : World) (ap : Option Addr) (n cap : Nat) (base : Int) (hb : base < 0 ∨ 1099511627776 ≤ base) :
    Calls Tryz.prog 139 #[.slice ap n cap, .int .i64 base] w fun e w' => e = .returned (.tuple #[.string ⟨#[]⟩, .int .i64 90]) ∧ Below w.heap.size w w' := by
  rcases hb with hb | hb
  · go_enter Tryz.func139, Tryz.ntmps139
    go_wp2
    go_ret2
    exact ⟨rfl, Below.refl _ _⟩
  · have h0 : ¬ base < 0 := by omega
    go_enter Tryz.func139, Tryz.ntmps139
    go_wp2
    go_ret2
    exact ⟨rfl, Below.refl _ _⟩
/-- may records be, from a base on? -/
def okRecs (base : Int) (rs : List Rec) : Bool := decide (0 ≤ base) && decide (base < 1099511627776) && rise base rs
/-- their bytes; none: they may not be -/
def recsStr (base : Int) (rs : List Rec) : ByteArray := if okRecs base rs = true then str (allBytes base rs) else ⟨#[]⟩
def recsErr (base : Int) (rs : List Rec) : Int := if okRecs base rs = true then 0 else 90
theorem recs_calls (ap : Option Addr) (cap : Nat) (rs : List Rec) (base : Int) (hn : rs.length ≤ 1048576) (w : World) (h : RecsAt w ap rs) :
    Calls Tryz.prog 139 #[.slice ap rs.length cap, .int .i64 base] w fun e w' => e = .returned (.tuple #[.string (recsStr base rs), .int .i64 (recsErr base rs)]) ∧ Below w.heap.size w w' := by
  by_cases hb : base < 0 ∨ 1099511627776 ≤ base
  · have hk : okRecs base rs = false := by
      unfold okRecs
      rcases hb with hb | hb
      · simp; intro h; omega
      · simp; intro _ h; omega
    unfold recsStr recsErr
    rw [hk]
    exact bytes_out w ap rs.length cap base hb
  · have h0 : 0 ≤ base := by omega
    have h1 : base < 1099511627776 := by omega
    have hk : okRecs base rs = rise base rs := by unfold okRecs; simp [h0, h1]
    unfold recsStr recsErr
    rw [hk]
    refine bytes_any w ap cap rs base h hn h0 h1 _ _ ?_
    cases hr : rise base rs with
    | true => exact .inl ⟨rfl, rfl, rfl⟩
    | false => exact .inr ⟨rfl, rfl, rfl⟩
/-- may a batch be? -/
def mayB (base count view producer seq : Int) (rs : List Rec) : Bool :=
  headed base count view producer seq && (okRecs base rs && (decide (rs.length = 0) || decide ((rs.getD (rs.length - 1) default).o < base + count)))
theorem headed_bounds {b c v p s : Int} (h : headed b c v p s = true) : (0 ≤ b ∧ b ≤ 1099511627520) ∧ (1 ≤ c ∧ c ≤ 256) ∧ (0 ≤ v ∧ v ≤ 2147483647) ∧ (0 ≤ p ∧ p ≤ 2147483647) ∧ (0 ≤ s ∧ s ≤ 2147483647) := by
  unfold headed at h
  simp only [inr_eq, Bool.and_eq_true, decide_eq_true_eq] at h
  exact h
theorem plain_any (base count view producer seq : Int) (ap : Option Addr) (cap : Nat) (rs : List Rec) (w : World) (h : RecsAt w ap rs) (hn : rs.length ≤ 1048576) :
    Calls Tryz.prog 100 #[.agg #[.int .i64 base, .int .i64 count, .int .i64 view, .int .i64 producer, .int .i64 seq, .slice ap rs.length cap]] w fun e w' =>
      e = .returned (.tuple #[.string (recsStr base rs), .bool (mayB base count view producer seq rs)]) ∧ Below w.heap.size w w' := by
  have hb := fun w h => recs_calls ap cap rs base hn w h
  cases hH : headed base count view producer seq with
  | false => exact plain_no base count view producer seq ap cap rs w h hn _ _ hb hH _ (by simp [mayB, hH])
  | true =>
    obtain ⟨⟨b0, b1⟩, ⟨b2, b3⟩, _⟩ := headed_bounds hH
    cases hE : okRecs base rs with
    | false => exact plain_bad base count view producer seq ap cap rs w h hn _ _ hb hH (by simp [recsErr, hE]) _ (by simp [mayB, hE])
    | true =>
      rcases Nat.eq_zero_or_pos rs.length with hz | hz
      · exact plain_nil base count view producer seq ap cap rs w h hn _ _ hb hH (by simp [recsErr, hE]) (by rw [hz]; rfl) _ (by simp [mayB, hH, hE, hz])
      · obtain ⟨a, ha, _⟩ := h (rs.length - 1) (by omega)
        have hlt : rs.length - 1 < rs.length := by omega
        refine plain_last base count view producer seq ap cap rs w h hn _ _ hb hH (by simp [recsErr, hE]) (beq_eq_false_iff_ne.2 (by omega)) a ha hz _ rfl _ ?_
        have hw : IntKind.i64.wrap (base + count) = base + count := IntWalk.i64_in _ (by omega)
        rw [hw]
        simp only [mayB, hH, hE, Bool.true_and]
        rw [decide_eq_false (show ¬ rs.length = 0 by omega), Bool.false_or]
        simp [List.getD_eq_getElem?_getD, List.getElem?_eq_getElem hlt]
set_option maxRecDepth 100000 in
set_option maxHeartbeats 1000000 in
theorem check_any (base count view producer seq : Int) (ap : Option Addr) (cap : Nat) (rs : List Rec) (w : World) (h : RecsAt w ap rs) (hn : rs.length ≤ 1048576) :
    Calls Tryz.prog 59 #[.agg #[.int .i64 base, .int .i64 count, .int .i64 view, .int .i64 producer, .int .i64 seq, .slice ap rs.length cap]] w fun e w' =>
      e = .returned (.int .i64 (chk (mayB base count view producer seq rs) 100)) ∧ Below w.heap.size w w' := by
  have H := Lib.hid h
  clear h
  go_enter Tryz.func59, Tryz.ntmps59
  go_wp2_with fail
  refine (plain_any base count view producer seq ap cap rs _ (H.out.below ((Below.refl _ _).alloc (Nat.le_refl _) _)) hn).mono ?_
  rintro e w1 ⟨rfl, hb1⟩
  have HB := Lib.hid (((Below.refl w.heap.size w).alloc (Nat.le_refl _) (.cells #[.int .i64 base, .int .i64 count, .int .i64 view, .int .i64 producer, .int .i64 seq, .slice ap rs.length cap] 59)).trans (hb1.mono (le_alloc (Nat.le_refl _) _)))
  clear hb1
  cases hm : mayB base count view producer seq rs with
  | true =>
    have HM := Lib.hid hm
    clear hm
    go_wp2
    go_ret
    exact ⟨by rw [HM.out]; rfl, HB.out⟩
  | false =>
    have HM := Lib.hid hm
    clear hm
    go_wp2
    go_ret
    exact ⟨by rw [HM.out]; rfl, HB.out⟩
/-- the codecs' functions -/
def cf (f : Nat) : Value := .func (.func f) #[] #[]
set_option maxRecDepth 100000 in
set_option maxHeartbeats 1000000 in
theorem codecs (w : World) : Calls Tryz.prog 57 #[] w fun e w' => e = .returned (.slice (some ⟨w.heap.size, 0, none⟩) 3 3) ∧
    w' = w.alloc (.cells #[cf 90, cf 91, cf 92, cf 93, cf 94, cf 95] 105) := by
  go_enter Tryz.func57, Tryz.ntmps57
  go_wp2
  go_ret
  exact ⟨rfl, rfl⟩
set_option maxRecDepth 100000 in
set_option maxHeartbeats 1000000 in
theorem codec0_pack (w : World) (s : ByteArray) : Calls Tryz.prog 90 #[.string s] w fun e w' => e = .returned (.tuple #[.string s, .int .i64 0]) ∧ w = w' := by
  go_enter Tryz.func90, Tryz.ntmps90
  go_wp2
  go_ret2
  exact ⟨rfl, rfl⟩
set_option maxRecDepth 100000 in
set_option maxHeartbeats 1000000 in
theorem codec0_unpack (w : World) (s : ByteArray) (n : Int) : Calls Tryz.prog 91 #[.string s, .int .i64 n] w fun e w' => e = .returned (.tuple #[.string s, .int .i64 s.size, .int .i64 0]) ∧ w = w' := by
  go_enter Tryz.func91, Tryz.ntmps91
  go_wp2
  go_ret3
  exact ⟨rfl, rfl⟩
end Go.Proofs.YtcioejacijkbcaaGreatDoor.Ba
