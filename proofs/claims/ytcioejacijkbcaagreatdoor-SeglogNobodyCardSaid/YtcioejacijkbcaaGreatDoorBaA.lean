/- batch: headed, plain, Check. -/
import Derived.Test.YtcioejacijkbcaaGreatDoorRcB
import Derived.RegionTactic
import Derived.Deep.RegionHeld3
import Derived.IntWalk
import Derived.Test.YtcioejacijkbcaaGreatDoorRg
namespace Go.Proofs.YtcioejacijkbcaaGreatDoor.Ba
open Go.RowKit Go.Maps Go.ChangeMaps Go.WideMaps Go.Proofs.YtcioejacijkbcaaGreatDoor.Su Go.Proofs.YtcioejacijkbcaaGreatDoor.Bt Go.Proofs.YtcioejacijkbcaaGreatDoor.Sb Go.Proofs.YtcioejacijkbcaaGreatDoor.Rc Go.Proofs.YtcioejacijkbcaaGreatDoor.Rg
set_option linter.unusedVariables false
/-- between two bounds -/
@[irreducible] def inr (n a b : Int) : Bool := decide (a ≤ n) && decide (n ≤ b)
theorem inr_eq (n a b : Int) : inr n a b = (decide (a ≤ n) && decide (n ≤ b)) := by unfold inr; rfl
set_option maxRecDepth 100000 in
theorem within (n a b : Int) (w : World) :
    Calls Tryz.prog 118 #[.int .i64 n, .int .i64 a, .int .i64 b] w fun e w' => e = .returned (.bool (inr n a b)) ∧ w = w' := by
  rw [inr_eq]
  go_enter Tryz.func118, Tryz.ntmps118
  go_wp2_with fail
  all_goals
    go_ret
    refine ⟨?_, rfl⟩
    first | (simp [*]; done) | (simp [*]; intro; omega)
/-- a batch: its head, and its records -/
structure Bat where
  base : Int
  count : Int
  view : Int
  producer : Int
  seq : Int
  ap : Option Addr
  cap : Nat
  rs : List Rec
/-- it as a value -/
def Bat.val (b : Bat) : Value := .agg #[.int .i64 b.base, .int .i64 b.count, .int .i64 b.view, .int .i64 b.producer, .int .i64 b.seq, .slice b.ap b.rs.length b.cap]
/-- may a head be? -/
def headed (b c v p s : Int) : Bool := inr b 0 1099511627520 && (inr c 1 256 && (inr v 0 2147483647 && (inr p 0 2147483647 && inr s 0 2147483647)))
set_option maxRecDepth 100000 in
set_option maxHeartbeats 4000000 in
theorem headed_calls (b c v p s : Int) (ap : Option Addr) (n cap : Nat) (w : World) :
    Calls Tryz.prog 80 #[.agg #[.int .i64 b, .int .i64 c, .int .i64 v, .int .i64 p, .int .i64 s, .slice ap n cap]] w fun e w' => e = .returned (.bool (headed b c v p s)) ∧ w' = w.alloc (.cells #[.int .i64 b, .int .i64 c, .int .i64 v, .int .i64 p, .int .i64 s, .slice ap n cap] 59) := by
  obtain ⟨h, hh⟩ : ∃ h, h = headed b c v p s := ⟨_, rfl⟩
  rw [← hh]
  unfold headed at hh
  go_enter Tryz.func80, Tryz.ntmps80
  go_wp2_with fail
  refine (within b 0 1099511627520 _).mono ?_
  rintro e w0 ⟨rfl, rfl⟩
  cases h0 : inr b 0 1099511627520 with
  | false =>
    rw [h0] at hh
    go_wp2
    go_ret
    exact ⟨by rw [hh]; rfl, rfl⟩
  | true =>
    rw [h0] at hh
    go_wp2_with fail
    refine (within c 1 256 _).mono ?_
    rintro e w1 ⟨rfl, rfl⟩
    cases h1 : inr c 1 256 with
    | false =>
      rw [h1] at hh
      go_wp2
      go_ret
      exact ⟨by rw [hh]; rfl, rfl⟩
    | true =>
      rw [h1] at hh
      go_wp2_with fail
      refine (within v 0 2147483647 _).mono ?_
      rintro e w2 ⟨rfl, rfl⟩
      cases h2 : inr v 0 2147483647 with
      | false =>
        rw [h2] at hh
        go_wp2
        go_ret
        exact ⟨by rw [hh]; rfl, rfl⟩
      | true =>
        rw [h2] at hh
        go_wp2_with fail
        refine (within p 0 2147483647 _).mono ?_
        rintro e w3 ⟨rfl, rfl⟩
        cases h3 : inr p 0 2147483647 with
        | false =>
          rw [h3] at hh
          go_wp2
          go_ret
          exact ⟨by rw [hh]; rfl, rfl⟩
        | true =>
          rw [h3] at hh
          go_wp2_with fail
          refine (within s 0 2147483647 _).mono ?_
          rintro e w4 ⟨rfl, rfl⟩
          go_wp2
          go_ret
          exact ⟨by rw [hh]; rfl, rfl⟩
/-- may a batch be? -/
def last (base : Int) (rs : List Rec) (e : Int) : Bool := decide (rs.length = 0) || decide ((rs.getD (rs.length - 1) default).o < e)
theorem cell_alloc {w : World} {a : Addr} {v : Value} (h : w.cell? a = some v) (o : Obj) : (w.alloc o).cell? a = some v := by
  have hlt : a.block < w.heap.size := by
    unfold World.cell? at h
    rcases Nat.lt_or_ge a.block w.heap.size with h1 | h1
    · exact h1
    · rw [Array.getElem?_eq_none h1] at h; cases h
  have e : (w.alloc o).heap[a.block]? = w.heap[a.block]? := by
    show (w.heap.push o)[a.block]? = _
    rw [Array.getElem?_push, if_neg (Nat.ne_of_lt hlt)]
  unfold World.cell? at h ⊢
  rw [e]; exact h
theorem cells6 {w : World} {b : Nat} {x0 x1 x2 x3 x4 x5 : Value} {t : TypeId} (h : w.heap[b]? = some (.cells #[x0, x1, x2, x3, x4, x5] t (0, 0))) :
    w.cell? ⟨b, 0, none⟩ = some x0 ∧ w.cell? ⟨b, 1, none⟩ = some x1 ∧ w.cell? ⟨b, 2, none⟩ = some x2 ∧ w.cell? ⟨b, 3, none⟩ = some x3 ∧ w.cell? ⟨b, 4, none⟩ = some x4 ∧ w.cell? ⟨b, 5, none⟩ = some x5 := by
  refine ⟨?_, ?_, ?_, ?_, ?_, ?_⟩ <;> (rw [cell_of_row _ _ _ _ _ _ h]; rfl)
def mayBat (b : Bat) : Bool := headed b.base b.count b.view b.producer b.seq && (rise b.base b.rs && last b.base b.rs (b.base + b.count))
set_option maxRecDepth 100000 in
set_option maxHeartbeats 4000000 in
theorem plain_no (base count view producer seq : Int) (ap : Option Addr) (cap : Nat) (rs : List Rec) (w : World) (h : RecsAt w ap rs) (hn : rs.length ≤ 1048576) (s : ByteArray) (er : Int)
    (hb : ∀ w, RecsAt w ap rs → Calls Tryz.prog 139 #[.slice ap rs.length cap, .int .i64 base] w fun e w' => e = .returned (.tuple #[.string s, .int .i64 er]) ∧ Below w.heap.size w w')
    (hH : headed base count view producer seq = false) (m : Bool) (hmv : m = false) :
    Calls Tryz.prog 100 #[.agg #[.int .i64 base, .int .i64 count, .int .i64 view, .int .i64 producer, .int .i64 seq, .slice ap rs.length cap]] w fun e w' => e = .returned (.tuple #[.string s, .bool m]) ∧ Below w.heap.size w w' := by
  have HMV := Lib.hid hmv
  have HHH := Lib.hid hH
  have HB := Lib.hid hb
  have HR := Lib.hid h
  clear hb h hmv hH
  go_enter Tryz.func100, Tryz.ntmps100
  go_wp2_with fail
  refine (HB.out _ (HR.out.below ((Below.refl _ _).alloc (Nat.le_refl _) _))).mono ?_
  rintro e w1 ⟨rfl, hb1⟩
  have HW := Lib.hid (((Below.refl w.heap.size w).alloc (Nat.le_refl _) (.cells #[.int .i64 base, .int .i64 count, .int .i64 view, .int .i64 producer, .int .i64 seq, .slice ap rs.length cap] 59)).trans (hb1.mono (le_alloc (Nat.le_refl _) _)))
  have hbox : w1.heap[w.heap.size]? = some (.cells #[.int .i64 base, .int .i64 count, .int .i64 view, .int .i64 producer, .int .i64 seq, .slice ap rs.length cap] 59 (0, 0)) := (hb1.block _ (by show _ < (w.heap.push _).size; simp)).trans (heap_alloc_last _ _)
  obtain ⟨c0, c1, c2, c3, c4, c5⟩ := cells6 hbox
  clear hb1 hbox HB HR
  go_wp2_with fail
  have hbw := HW.out
  refine wp_region_seq (S := (fun w' => w'.cell? ⟨w.heap.size, 0, none⟩ = some (.int .i64 base) ∧ w'.cell? ⟨w.heap.size, 1, none⟩ = some (.int .i64 count) ∧ w'.cell? ⟨w.heap.size, 2, none⟩ = some (.int .i64 view) ∧ w'.cell? ⟨w.heap.size, 3, none⟩ = some (.int .i64 producer) ∧ w'.cell? ⟨w.heap.size, 4, none⟩ = some (.int .i64 seq) ∧ w'.cell? ⟨w.heap.size, 5, none⟩ = some (.slice ap rs.length cap) ∧ Below w.heap.size w w')) (by kernel_rfl) (by kernel_rfl) ⟨c0, c1, c2, c3, c4, c5, hbw.drew⟩ ?_
  refine Seq.light (v := ?_) (by kernel_rfl) ?_ ?_
  rotate_left 1
  focus (intro w hSw; (try dsimp only at hSw); go_simp; try with_reducible rfl)
  try simp only [Act.put, List.setIfInBounds_toArray, List.set_cons_zero, List.set_cons_succ]
  refine Seq.light (v := ?_) (by kernel_rfl) ?_ ?_
  rotate_left 1
  focus (intro w hSw; (try dsimp only at hSw); go_simp; try with_reducible rfl)
  try simp only [Act.put, List.setIfInBounds_toArray, List.set_cons_zero, List.set_cons_succ]
  refine Seq.call (.bool false) (by kernel_rfl) (fun w hSw => by (try dsimp only at hSw); go_simp; exact ⟨rfl, rfl⟩) ?_ ?_
  · intro w hSw
    refine (headed_calls base count view producer seq _ rs.length cap w).mono ?_
    rintro e w2 ⟨rfl, rfl⟩
    obtain ⟨d0, d1, d2, d3, d4, d5, d6⟩ := hSw
    exact ⟨by rw [HHH.out], cell_alloc d0 _, cell_alloc d1 _, cell_alloc d2 _, cell_alloc d3 _, cell_alloc d4 _, cell_alloc d5 _, d6.alloc d6.size _⟩
  try simp only [Act.put, List.setIfInBounds_toArray, List.set_cons_zero, List.set_cons_succ]
  refine Seq.light (v := ?_) (by kernel_rfl) ?_ ?_
  rotate_left 1
  focus (intro w hSw; (try dsimp only at hSw); go_simp; try with_reducible rfl)
  try simp only [Act.put, List.setIfInBounds_toArray, List.set_cons_zero, List.set_cons_succ]
  refine Seq.skip (by kernel_rfl) ?_
  try simp only [Act.put, List.setIfInBounds_toArray, List.set_cons_zero, List.set_cons_succ]
  refine Seq.skip (by kernel_rfl) ?_
  try simp only [Act.put, List.setIfInBounds_toArray, List.set_cons_zero, List.set_cons_succ]
  refine Seq.light (v := ?_) (by kernel_rfl) ?_ ?_
  rotate_left 1
  focus (intro w hSw; (try dsimp only at hSw); go_simp; try with_reducible rfl)
  try simp only [Act.put, List.setIfInBounds_toArray, List.set_cons_zero, List.set_cons_succ]
  refine Seq.light (v := ?_) (by kernel_rfl) ?_ ?_
  rotate_left 1
  focus (intro w hSw; (try dsimp only at hSw); go_simp; try with_reducible rfl)
  try simp only [Act.put, List.setIfInBounds_toArray, List.set_cons_zero, List.set_cons_succ]
  refine Seq.skip (by kernel_rfl) ?_
  try simp only [Act.put, List.setIfInBounds_toArray, List.set_cons_zero, List.set_cons_succ]
  refine Seq.skip (by kernel_rfl) ?_
  try simp only [Act.put, List.setIfInBounds_toArray, List.set_cons_zero, List.set_cons_succ]
  refine Seq.skip (by kernel_rfl) ?_
  try simp only [Act.put, List.setIfInBounds_toArray, List.set_cons_zero, List.set_cons_succ]
  refine Seq.skip (by kernel_rfl) ?_
  try simp only [Act.put, List.setIfInBounds_toArray, List.set_cons_zero, List.set_cons_succ]
  refine Seq.skip (by kernel_rfl) ?_
  try simp only [Act.put, List.setIfInBounds_toArray, List.set_cons_zero, List.set_cons_succ]
  refine Seq.skip (by kernel_rfl) ?_
  try simp only [Act.put, List.setIfInBounds_toArray, List.set_cons_zero, List.set_cons_succ]
  refine Seq.skip (by kernel_rfl) ?_
  try simp only [Act.put, List.setIfInBounds_toArray, List.set_cons_zero, List.set_cons_succ]
  refine Seq.skip (by kernel_rfl) ?_
  try simp only [Act.put, List.setIfInBounds_toArray, List.set_cons_zero, List.set_cons_succ]
  refine Seq.skip (by kernel_rfl) ?_
  try simp only [Act.put, List.setIfInBounds_toArray, List.set_cons_zero, List.set_cons_succ]
  refine Seq.skip (by kernel_rfl) ?_
  try simp only [Act.put, List.setIfInBounds_toArray, List.set_cons_zero, List.set_cons_succ]
  refine Seq.skip (by kernel_rfl) ?_
  try simp only [Act.put, List.setIfInBounds_toArray, List.set_cons_zero, List.set_cons_succ]
  refine Seq.skip (by kernel_rfl) ?_
  try simp only [Act.put, List.setIfInBounds_toArray, List.set_cons_zero, List.set_cons_succ]
  refine Seq.skip (by kernel_rfl) ?_
  try simp only [Act.put, List.setIfInBounds_toArray, List.set_cons_zero, List.set_cons_succ]
  refine Seq.skip (by kernel_rfl) ?_
  try simp only [Act.put, List.setIfInBounds_toArray, List.set_cons_zero, List.set_cons_succ]
  refine Seq.skip (by kernel_rfl) ?_
  try simp only [Act.put, List.setIfInBounds_toArray, List.set_cons_zero, List.set_cons_succ]
  refine Seq.skip (by kernel_rfl) ?_
  try simp only [Act.put, List.setIfInBounds_toArray, List.set_cons_zero, List.set_cons_succ]
  refine Seq.skip (by kernel_rfl) ?_
  try simp only [Act.put, List.setIfInBounds_toArray, List.set_cons_zero, List.set_cons_succ]
  refine Seq.light (v := ?_) (by kernel_rfl) ?_ ?_
  rotate_left 1
  focus (intro w hSw; (try dsimp only at hSw); go_simp; try with_reducible rfl)
  try simp only [Act.put, List.setIfInBounds_toArray, List.set_cons_zero, List.set_cons_succ]
  refine Seq.light (v := ?_) (by kernel_rfl) ?_ ?_
  rotate_left 1
  focus (intro w hSw; (try dsimp only at hSw); go_simp; try with_reducible rfl)
  try simp only [Act.put, List.setIfInBounds_toArray, List.set_cons_zero, List.set_cons_succ]
  refine Seq.light (v := ?_) (by kernel_rfl) ?_ ?_
  rotate_left 1
  focus (intro w hSw; (try dsimp only at hSw); go_simp; try with_reducible rfl)
  try simp only [Act.put, List.setIfInBounds_toArray, List.set_cons_zero, List.set_cons_succ]
  refine Seq.nil fun w3 hS3 => ?_
  have HF := Lib.hid hS3
  clear hS3
  go_wp2
  go_ret2
  exact ⟨by rw [HMV.out]; rfl, HF.out.2.2.2.2.2.2⟩
set_option maxRecDepth 100000 in
set_option maxHeartbeats 4000000 in
theorem plain_bad (base count view producer seq : Int) (ap : Option Addr) (cap : Nat) (rs : List Rec) (w : World) (h : RecsAt w ap rs) (hn : rs.length ≤ 1048576) (s : ByteArray) (er : Int)
    (hb : ∀ w, RecsAt w ap rs → Calls Tryz.prog 139 #[.slice ap rs.length cap, .int .i64 base] w fun e w' => e = .returned (.tuple #[.string s, .int .i64 er]) ∧ Below w.heap.size w w')
    (hH : headed base count view producer seq = true) (hre : ((er : Int) == 0) = false) (m : Bool) (hmv : m = false) :
    Calls Tryz.prog 100 #[.agg #[.int .i64 base, .int .i64 count, .int .i64 view, .int .i64 producer, .int .i64 seq, .slice ap rs.length cap]] w fun e w' => e = .returned (.tuple #[.string s, .bool m]) ∧ Below w.heap.size w w' := by
  have HMV := Lib.hid hmv
  have HHH := Lib.hid hH
  have HB := Lib.hid hb
  have HR := Lib.hid h
  clear hb h hmv hH
  go_enter Tryz.func100, Tryz.ntmps100
  go_wp2_with fail
  refine (HB.out _ (HR.out.below ((Below.refl _ _).alloc (Nat.le_refl _) _))).mono ?_
  rintro e w1 ⟨rfl, hb1⟩
  have HW := Lib.hid (((Below.refl w.heap.size w).alloc (Nat.le_refl _) (.cells #[.int .i64 base, .int .i64 count, .int .i64 view, .int .i64 producer, .int .i64 seq, .slice ap rs.length cap] 59)).trans (hb1.mono (le_alloc (Nat.le_refl _) _)))
  have hbox : w1.heap[w.heap.size]? = some (.cells #[.int .i64 base, .int .i64 count, .int .i64 view, .int .i64 producer, .int .i64 seq, .slice ap rs.length cap] 59 (0, 0)) := (hb1.block _ (by show _ < (w.heap.push _).size; simp)).trans (heap_alloc_last _ _)
  obtain ⟨c0, c1, c2, c3, c4, c5⟩ := cells6 hbox
  clear hb1 hbox HB HR
  go_wp2_with fail
  have hbw := HW.out
  refine wp_region_seq (S := (fun w' => w'.cell? ⟨w.heap.size, 0, none⟩ = some (.int .i64 base) ∧ w'.cell? ⟨w.heap.size, 1, none⟩ = some (.int .i64 count) ∧ w'.cell? ⟨w.heap.size, 2, none⟩ = some (.int .i64 view) ∧ w'.cell? ⟨w.heap.size, 3, none⟩ = some (.int .i64 producer) ∧ w'.cell? ⟨w.heap.size, 4, none⟩ = some (.int .i64 seq) ∧ w'.cell? ⟨w.heap.size, 5, none⟩ = some (.slice ap rs.length cap) ∧ Below w.heap.size w w')) (by kernel_rfl) (by kernel_rfl) ⟨c0, c1, c2, c3, c4, c5, hbw.drew⟩ ?_
  refine Seq.light (v := ?_) (by kernel_rfl) ?_ ?_
  rotate_left 1
  focus (intro w hSw; (try dsimp only at hSw); go_simp; try with_reducible rfl)
  try simp only [Act.put, List.setIfInBounds_toArray, List.set_cons_zero, List.set_cons_succ]
  refine Seq.light (v := ?_) (by kernel_rfl) ?_ ?_
  rotate_left 1
  focus (intro w hSw; (try dsimp only at hSw); go_simp; try with_reducible rfl)
  try simp only [Act.put, List.setIfInBounds_toArray, List.set_cons_zero, List.set_cons_succ]
  refine Seq.call (.bool true) (by kernel_rfl) (fun w hSw => by (try dsimp only at hSw); go_simp; exact ⟨rfl, rfl⟩) ?_ ?_
  · intro w hSw
    refine (headed_calls base count view producer seq _ rs.length cap w).mono ?_
    rintro e w2 ⟨rfl, rfl⟩
    obtain ⟨d0, d1, d2, d3, d4, d5, d6⟩ := hSw
    exact ⟨by rw [HHH.out], cell_alloc d0 _, cell_alloc d1 _, cell_alloc d2 _, cell_alloc d3 _, cell_alloc d4 _, cell_alloc d5 _, d6.alloc d6.size _⟩
  try simp only [Act.put, List.setIfInBounds_toArray, List.set_cons_zero, List.set_cons_succ]
  refine Seq.light (v := ?_) (by kernel_rfl) ?_ ?_
  rotate_left 1
  focus (intro w hSw; (try dsimp only at hSw); go_simp; try with_reducible rfl)
  try simp only [Act.put, List.setIfInBounds_toArray, List.set_cons_zero, List.set_cons_succ]
  refine Seq.light (v := ?_) (by kernel_rfl) ?_ ?_
  rotate_left 1
  focus (intro w hSw; (try dsimp only at hSw); go_simp; try with_reducible rfl)
  try simp only [Act.put, List.setIfInBounds_toArray, List.set_cons_zero, List.set_cons_succ]
  refine Seq.light (v := ?_) (by kernel_rfl) ?_ ?_
  rotate_left 1
  focus (intro w hSw; (try dsimp only at hSw); go_simp; try with_reducible rfl)
  try simp only [Act.put, List.setIfInBounds_toArray, List.set_cons_zero, List.set_cons_succ]
  refine Seq.light (v := ?_) (by kernel_rfl) ?_ ?_
  rotate_left 1
  focus (intro w hSw; (try dsimp only at hSw); go_simp; try with_reducible rfl)
  try simp only [Act.put, List.setIfInBounds_toArray, List.set_cons_zero, List.set_cons_succ]
  refine Seq.light (v := ?_) (by kernel_rfl) ?_ ?_
  rotate_left 1
  focus (intro w hSw; (try dsimp only at hSw); go_simp; try with_reducible rfl)
  try simp only [Act.put, List.setIfInBounds_toArray, List.set_cons_zero, List.set_cons_succ]
  refine Seq.skip (by kernel_rfl) ?_
  try simp only [Act.put, List.setIfInBounds_toArray, List.set_cons_zero, List.set_cons_succ]
  refine Seq.skip (by kernel_rfl) ?_
  try simp only [Act.put, List.setIfInBounds_toArray, List.set_cons_zero, List.set_cons_succ]
  refine Seq.skip (by kernel_rfl) ?_
  try simp only [Act.put, List.setIfInBounds_toArray, List.set_cons_zero, List.set_cons_succ]
  refine Seq.skip (by kernel_rfl) ?_
  try simp only [Act.put, List.setIfInBounds_toArray, List.set_cons_zero, List.set_cons_succ]
  refine Seq.skip (by kernel_rfl) ?_
  try simp only [Act.put, List.setIfInBounds_toArray, List.set_cons_zero, List.set_cons_succ]
  refine Seq.skip (by kernel_rfl) ?_
  try simp only [Act.put, List.setIfInBounds_toArray, List.set_cons_zero, List.set_cons_succ]
  refine Seq.skip (by kernel_rfl) ?_
  try simp only [Act.put, List.setIfInBounds_toArray, List.set_cons_zero, List.set_cons_succ]
  refine Seq.skip (by kernel_rfl) ?_
  try simp only [Act.put, List.setIfInBounds_toArray, List.set_cons_zero, List.set_cons_succ]
  refine Seq.skip (by kernel_rfl) ?_
  try simp only [Act.put, List.setIfInBounds_toArray, List.set_cons_zero, List.set_cons_succ]
  refine Seq.skip (by kernel_rfl) ?_
  try simp only [Act.put, List.setIfInBounds_toArray, List.set_cons_zero, List.set_cons_succ]
  refine Seq.skip (by kernel_rfl) ?_
  try simp only [Act.put, List.setIfInBounds_toArray, List.set_cons_zero, List.set_cons_succ]
  refine Seq.skip (by kernel_rfl) ?_
  try simp only [Act.put, List.setIfInBounds_toArray, List.set_cons_zero, List.set_cons_succ]
  refine Seq.skip (by kernel_rfl) ?_
  try simp only [Act.put, List.setIfInBounds_toArray, List.set_cons_zero, List.set_cons_succ]
  refine Seq.skip (by kernel_rfl) ?_
  try simp only [Act.put, List.setIfInBounds_toArray, List.set_cons_zero, List.set_cons_succ]
  refine Seq.skip (by kernel_rfl) ?_
  try simp only [Act.put, List.setIfInBounds_toArray, List.set_cons_zero, List.set_cons_succ]
  refine Seq.skip (by kernel_rfl) ?_
  try simp only [Act.put, List.setIfInBounds_toArray, List.set_cons_zero, List.set_cons_succ]
  refine Seq.skip (by kernel_rfl) ?_
  try simp only [Act.put, List.setIfInBounds_toArray, List.set_cons_zero, List.set_cons_succ]
  refine Seq.light (v := ?_) (by kernel_rfl) ?_ ?_
  rotate_left 1
  focus (intro w hSw; (try dsimp only at hSw); go_simp; try with_reducible rfl)
  try simp only [Act.put, List.setIfInBounds_toArray, List.set_cons_zero, List.set_cons_succ]
  refine Seq.light (v := ?_) (by kernel_rfl) ?_ ?_
  rotate_left 1
  focus (intro w hSw; (try dsimp only at hSw); go_simp; try with_reducible rfl)
  try simp only [Act.put, List.setIfInBounds_toArray, List.set_cons_zero, List.set_cons_succ]
  refine Seq.light (v := ?_) (by kernel_rfl) ?_ ?_
  rotate_left 1
  focus (intro w hSw; (try dsimp only at hSw); go_simp; try with_reducible rfl)
  try simp only [Act.put, List.setIfInBounds_toArray, List.set_cons_zero, List.set_cons_succ]
  refine Seq.nil fun w3 hS3 => ?_
  have HF := Lib.hid hS3
  clear hS3
  go_wp2
  go_ret2
  exact ⟨by rw [HMV.out]; rfl, HF.out.2.2.2.2.2.2⟩
set_option maxRecDepth 100000 in
set_option maxHeartbeats 4000000 in
theorem plain_nil (base count view producer seq : Int) (ap : Option Addr) (cap : Nat) (rs : List Rec) (w : World) (h : RecsAt w ap rs) (hn : rs.length ≤ 1048576) (s : ByteArray) (er : Int)
    (hb : ∀ w, RecsAt w ap rs → Calls Tryz.prog 139 #[.slice ap rs.length cap, .int .i64 base] w fun e w' => e = .returned (.tuple #[.string s, .int .i64 er]) ∧ Below w.heap.size w w')
    (hH : headed base count view producer seq = true) (hre : ((er : Int) == 0) = true) (hz : ((rs.length : Int) == 0) = true) (m : Bool) (hmv : m = true) :
    Calls Tryz.prog 100 #[.agg #[.int .i64 base, .int .i64 count, .int .i64 view, .int .i64 producer, .int .i64 seq, .slice ap rs.length cap]] w fun e w' => e = .returned (.tuple #[.string s, .bool m]) ∧ Below w.heap.size w w' := by
  have HMV := Lib.hid hmv
  have HHH := Lib.hid hH
  have HB := Lib.hid hb
  have HR := Lib.hid h
  clear hb h hmv hH
  go_enter Tryz.func100, Tryz.ntmps100
  go_wp2_with fail
  refine (HB.out _ (HR.out.below ((Below.refl _ _).alloc (Nat.le_refl _) _))).mono ?_
  rintro e w1 ⟨rfl, hb1⟩
  have HW := Lib.hid (((Below.refl w.heap.size w).alloc (Nat.le_refl _) (.cells #[.int .i64 base, .int .i64 count, .int .i64 view, .int .i64 producer, .int .i64 seq, .slice ap rs.length cap] 59)).trans (hb1.mono (le_alloc (Nat.le_refl _) _)))
  have hbox : w1.heap[w.heap.size]? = some (.cells #[.int .i64 base, .int .i64 count, .int .i64 view, .int .i64 producer, .int .i64 seq, .slice ap rs.length cap] 59 (0, 0)) := (hb1.block _ (by show _ < (w.heap.push _).size; simp)).trans (heap_alloc_last _ _)
  obtain ⟨c0, c1, c2, c3, c4, c5⟩ := cells6 hbox
  clear hb1 hbox HB HR
  go_wp2_with fail
  have hbw := HW.out
  refine wp_region_seq (S := (fun w' => w'.cell? ⟨w.heap.size, 0, none⟩ = some (.int .i64 base) ∧ w'.cell? ⟨w.heap.size, 1, none⟩ = some (.int .i64 count) ∧ w'.cell? ⟨w.heap.size, 2, none⟩ = some (.int .i64 view) ∧ w'.cell? ⟨w.heap.size, 3, none⟩ = some (.int .i64 producer) ∧ w'.cell? ⟨w.heap.size, 4, none⟩ = some (.int .i64 seq) ∧ w'.cell? ⟨w.heap.size, 5, none⟩ = some (.slice ap rs.length cap) ∧ Below w.heap.size w w')) (by kernel_rfl) (by kernel_rfl) ⟨c0, c1, c2, c3, c4, c5, hbw.drew⟩ ?_
  refine Seq.light (v := ?_) (by kernel_rfl) ?_ ?_
  rotate_left 1
  focus (intro w hSw; (try dsimp only at hSw); go_simp; try with_reducible rfl)
  try simp only [Act.put, List.setIfInBounds_toArray, List.set_cons_zero, List.set_cons_succ]
  refine Seq.light (v := ?_) (by kernel_rfl) ?_ ?_
  rotate_left 1
  focus (intro w hSw; (try dsimp only at hSw); go_simp; try with_reducible rfl)
  try simp only [Act.put, List.setIfInBounds_toArray, List.set_cons_zero, List.set_cons_succ]
  refine Seq.call (.bool true) (by kernel_rfl) (fun w hSw => by (try dsimp only at hSw); go_simp; exact ⟨rfl, rfl⟩) ?_ ?_
  · intro w hSw
    refine (headed_calls base count view producer seq _ rs.length cap w).mono ?_
    rintro e w2 ⟨rfl, rfl⟩
    obtain ⟨d0, d1, d2, d3, d4, d5, d6⟩ := hSw
    exact ⟨by rw [HHH.out], cell_alloc d0 _, cell_alloc d1 _, cell_alloc d2 _, cell_alloc d3 _, cell_alloc d4 _, cell_alloc d5 _, d6.alloc d6.size _⟩
  try simp only [Act.put, List.setIfInBounds_toArray, List.set_cons_zero, List.set_cons_succ]
  refine Seq.light (v := ?_) (by kernel_rfl) ?_ ?_
  rotate_left 1
  focus (intro w hSw; (try dsimp only at hSw); go_simp; try with_reducible rfl)
  try simp only [Act.put, List.setIfInBounds_toArray, List.set_cons_zero, List.set_cons_succ]
  refine Seq.light (v := ?_) (by kernel_rfl) ?_ ?_
  rotate_left 1
  focus (intro w hSw; (try dsimp only at hSw); go_simp; try with_reducible rfl)
  try simp only [Act.put, List.setIfInBounds_toArray, List.set_cons_zero, List.set_cons_succ]
  refine Seq.light (v := ?_) (by kernel_rfl) ?_ ?_
  rotate_left 1
  focus (intro w hSw; (try dsimp only at hSw); go_simp; try with_reducible rfl)
  try simp only [Act.put, List.setIfInBounds_toArray, List.set_cons_zero, List.set_cons_succ]
  refine Seq.light (v := ?_) (by kernel_rfl) ?_ ?_
  rotate_left 1
  focus (intro w hSw; (try dsimp only at hSw); go_simp; try with_reducible rfl)
  try simp only [Act.put, List.setIfInBounds_toArray, List.set_cons_zero, List.set_cons_succ]
  refine Seq.light (v := ?_) (by kernel_rfl) ?_ ?_
  rotate_left 1
  focus (intro w hSw; (try dsimp only at hSw); go_simp; try with_reducible rfl)
  try simp only [Act.put, List.setIfInBounds_toArray, List.set_cons_zero, List.set_cons_succ]
  refine Seq.light (v := ?_) (by kernel_rfl) ?_ ?_
  rotate_left 1
  focus (intro w hSw; (try dsimp only at hSw); go_simp; try with_reducible rfl)
  try simp only [Act.put, List.setIfInBounds_toArray, List.set_cons_zero, List.set_cons_succ]
  refine Seq.light (v := ?_) (by kernel_rfl) ?_ ?_
  rotate_left 1
  focus (intro w hSw; (try dsimp only at hSw); go_simp; try with_reducible rfl)
  try simp only [Act.put, List.setIfInBounds_toArray, List.set_cons_zero, List.set_cons_succ]
  refine Seq.light (v := ?_) (by kernel_rfl) ?_ ?_
  rotate_left 1
  focus (intro w hSw; (try dsimp only at hSw); go_simp; try with_reducible rfl)
  try simp only [Act.put, List.setIfInBounds_toArray, List.set_cons_zero, List.set_cons_succ]
  refine Seq.skip (by kernel_rfl) ?_
  try simp only [Act.put, List.setIfInBounds_toArray, List.set_cons_zero, List.set_cons_succ]
  refine Seq.skip (by kernel_rfl) ?_
  try simp only [Act.put, List.setIfInBounds_toArray, List.set_cons_zero, List.set_cons_succ]
  refine Seq.skip (by kernel_rfl) ?_
  try simp only [Act.put, List.setIfInBounds_toArray, List.set_cons_zero, List.set_cons_succ]
  refine Seq.skip (by kernel_rfl) ?_
  try simp only [Act.put, List.setIfInBounds_toArray, List.set_cons_zero, List.set_cons_succ]
  refine Seq.skip (by kernel_rfl) ?_
  try simp only [Act.put, List.setIfInBounds_toArray, List.set_cons_zero, List.set_cons_succ]
  refine Seq.skip (by kernel_rfl) ?_
  try simp only [Act.put, List.setIfInBounds_toArray, List.set_cons_zero, List.set_cons_succ]
  refine Seq.skip (by kernel_rfl) ?_
  try simp only [Act.put, List.setIfInBounds_toArray, List.set_cons_zero, List.set_cons_succ]
  refine Seq.skip (by kernel_rfl) ?_
  try simp only [Act.put, List.setIfInBounds_toArray, List.set_cons_zero, List.set_cons_succ]
  refine Seq.skip (by kernel_rfl) ?_
  try simp only [Act.put, List.setIfInBounds_toArray, List.set_cons_zero, List.set_cons_succ]
  refine Seq.skip (by kernel_rfl) ?_
  try simp only [Act.put, List.setIfInBounds_toArray, List.set_cons_zero, List.set_cons_succ]
  refine Seq.skip (by kernel_rfl) ?_
  try simp only [Act.put, List.setIfInBounds_toArray, List.set_cons_zero, List.set_cons_succ]
  refine Seq.skip (by kernel_rfl) ?_
  try simp only [Act.put, List.setIfInBounds_toArray, List.set_cons_zero, List.set_cons_succ]
  refine Seq.skip (by kernel_rfl) ?_
  try simp only [Act.put, List.setIfInBounds_toArray, List.set_cons_zero, List.set_cons_succ]
  refine Seq.light (v := ?_) (by kernel_rfl) ?_ ?_
  rotate_left 1
  focus (intro w hSw; (try dsimp only at hSw); go_simp; try with_reducible rfl)
  try simp only [Act.put, List.setIfInBounds_toArray, List.set_cons_zero, List.set_cons_succ]
  refine Seq.light (v := ?_) (by kernel_rfl) ?_ ?_
  rotate_left 1
  focus (intro w hSw; (try dsimp only at hSw); go_simp; try with_reducible rfl)
  try simp only [Act.put, List.setIfInBounds_toArray, List.set_cons_zero, List.set_cons_succ]
  refine Seq.light (v := ?_) (by kernel_rfl) ?_ ?_
  rotate_left 1
  focus (intro w hSw; (try dsimp only at hSw); go_simp; try with_reducible rfl)
  try simp only [Act.put, List.setIfInBounds_toArray, List.set_cons_zero, List.set_cons_succ]
  refine Seq.light (v := ?_) (by kernel_rfl) ?_ ?_
  rotate_left 1
  focus (intro w hSw; (try dsimp only at hSw); go_simp; try with_reducible rfl)
  try simp only [Act.put, List.setIfInBounds_toArray, List.set_cons_zero, List.set_cons_succ]
  refine Seq.nil fun w3 hS3 => ?_
  have HF := Lib.hid hS3
  clear hS3
  go_wp2
  go_ret2
  exact ⟨by rw [HMV.out]; rfl, HF.out.2.2.2.2.2.2⟩
set_option maxRecDepth 100000 in
set_option maxHeartbeats 4000000 in
theorem plain_last (base count view producer seq : Int) (ap : Option Addr) (cap : Nat) (rs : List Rec) (w : World) (h : RecsAt w ap rs) (hn : rs.length ≤ 1048576) (s : ByteArray) (er : Int)
    (hb : ∀ w, RecsAt w ap rs → Calls Tryz.prog 139 #[.slice ap rs.length cap, .int .i64 base] w fun e w' => e = .returned (.tuple #[.string s, .int .i64 er]) ∧ Below w.heap.size w w')
    (hH : headed base count view producer seq = true) (hre : ((er : Int) == 0) = true) (hz : ((rs.length : Int) == 0) = false) (a : Addr) (ha : ap = some a) (hpos : 0 < rs.length) (lo : Int) (hlo : (rs[rs.length - 1]'(by omega)).o = lo) (m : Bool) (hmv : m = decide (lo < IntKind.i64.wrap (base + count))) :
    Calls Tryz.prog 100 #[.agg #[.int .i64 base, .int .i64 count, .int .i64 view, .int .i64 producer, .int .i64 seq, .slice ap rs.length cap]] w fun e w' => e = .returned (.tuple #[.string s, .bool m]) ∧ Below w.heap.size w w' := by
  subst ha
  have HMV := Lib.hid hmv
  have HLO := Lib.hid hlo
  clear hlo
  have hx0 : (0 : Int) ≤ (rs.length : Int) - 1 := by omega
  have hx1 : (rs.length : Int) - 1 < (rs.length : Int) := by omega
  have hx2 : (1 : Int) ≤ (rs.length : Int) := by omega
  have HHH := Lib.hid hH
  have HB := Lib.hid hb
  have HR := Lib.hid h
  clear hb h hmv hH
  go_enter Tryz.func100, Tryz.ntmps100
  go_wp2_with fail
  refine (HB.out _ (HR.out.below ((Below.refl _ _).alloc (Nat.le_refl _) _))).mono ?_
  rintro e w1 ⟨rfl, hb1⟩
  have HW := Lib.hid (((Below.refl w.heap.size w).alloc (Nat.le_refl _) (.cells #[.int .i64 base, .int .i64 count, .int .i64 view, .int .i64 producer, .int .i64 seq, .slice (some a) rs.length cap] 59)).trans (hb1.mono (le_alloc (Nat.le_refl _) _)))
  have hbox : w1.heap[w.heap.size]? = some (.cells #[.int .i64 base, .int .i64 count, .int .i64 view, .int .i64 producer, .int .i64 seq, .slice (some a) rs.length cap] 59 (0, 0)) := (hb1.block _ (by show _ < (w.heap.push _).size; simp)).trans (heap_alloc_last _ _)
  have hlast : w1.cell? (a.add ((rs.length - 1) * 4)) = some (.int .i64 lo) := by
    obtain ⟨a', ha, _, h0, _⟩ := (HR.out.below HW.out) (rs.length - 1) (by omega)
    cases ha
    rw [h0, HLO.out]
  obtain ⟨c0, c1, c2, c3, c4, c5⟩ := cells6 hbox
  have clast := hlast
  clear hb1 hbox HB HR hlast
  have hwr : IntKind.i64.wrap ((rs.length : Int) - 1) = (rs.length : Int) - 1 := IntWalk.i64_in _ (by omega)
  go_wp2_with fail
  have hbw := HW.out
  refine wp_region_seq (S := (fun w' => w'.cell? ⟨w.heap.size, 0, none⟩ = some (.int .i64 base) ∧ w'.cell? ⟨w.heap.size, 1, none⟩ = some (.int .i64 count) ∧ w'.cell? ⟨w.heap.size, 2, none⟩ = some (.int .i64 view) ∧ w'.cell? ⟨w.heap.size, 3, none⟩ = some (.int .i64 producer) ∧ w'.cell? ⟨w.heap.size, 4, none⟩ = some (.int .i64 seq) ∧ w'.cell? ⟨w.heap.size, 5, none⟩ = some (.slice (some a) rs.length cap) ∧ Below w.heap.size w w' ∧ w'.cell? (a.add ((rs.length - 1) * 4)) = some (.int .i64 lo))) (by kernel_rfl) (by kernel_rfl) ⟨c0, c1, c2, c3, c4, c5, hbw.drew, clast⟩ ?_
  refine Seq.light (v := ?_) (by kernel_rfl) ?_ ?_
  rotate_left 1
  focus (intro w hSw; (try dsimp only at hSw); go_simp; try with_reducible rfl)
  try simp only [Act.put, List.setIfInBounds_toArray, List.set_cons_zero, List.set_cons_succ]
  refine Seq.light (v := ?_) (by kernel_rfl) ?_ ?_
  rotate_left 1
  focus (intro w hSw; (try dsimp only at hSw); go_simp; try with_reducible rfl)
  try simp only [Act.put, List.setIfInBounds_toArray, List.set_cons_zero, List.set_cons_succ]
  refine Seq.call (.bool true) (by kernel_rfl) (fun w hSw => by (try dsimp only at hSw); go_simp; exact ⟨rfl, rfl⟩) ?_ ?_
  · intro w hSw
    refine (headed_calls base count view producer seq _ rs.length cap w).mono ?_
    rintro e w2 ⟨rfl, rfl⟩
    obtain ⟨d0, d1, d2, d3, d4, d5, d6, d7⟩ := hSw
    exact ⟨by rw [HHH.out], cell_alloc d0 _, cell_alloc d1 _, cell_alloc d2 _, cell_alloc d3 _, cell_alloc d4 _, cell_alloc d5 _, d6.alloc d6.size _, cell_alloc d7 _⟩
  try simp only [Act.put, List.setIfInBounds_toArray, List.set_cons_zero, List.set_cons_succ]
  refine Seq.light (v := ?_) (by kernel_rfl) ?_ ?_
  rotate_left 1
  focus (intro w hSw; (try dsimp only at hSw); go_simp; try with_reducible rfl)
  try simp only [Act.put, List.setIfInBounds_toArray, List.set_cons_zero, List.set_cons_succ]
  refine Seq.light (v := ?_) (by kernel_rfl) ?_ ?_
  rotate_left 1
  focus (intro w hSw; (try dsimp only at hSw); go_simp; try with_reducible rfl)
  try simp only [Act.put, List.setIfInBounds_toArray, List.set_cons_zero, List.set_cons_succ]
  refine Seq.light (v := ?_) (by kernel_rfl) ?_ ?_
  rotate_left 1
  focus (intro w hSw; (try dsimp only at hSw); go_simp; try with_reducible rfl)
  try simp only [Act.put, List.setIfInBounds_toArray, List.set_cons_zero, List.set_cons_succ]
  refine Seq.light (v := ?_) (by kernel_rfl) ?_ ?_
  rotate_left 1
  focus (intro w hSw; (try dsimp only at hSw); go_simp; try with_reducible rfl)
  try simp only [Act.put, List.setIfInBounds_toArray, List.set_cons_zero, List.set_cons_succ]
  refine Seq.light (v := ?_) (by kernel_rfl) ?_ ?_
  rotate_left 1
  focus (intro w hSw; (try dsimp only at hSw); go_simp; try with_reducible rfl)
  try simp only [Act.put, List.setIfInBounds_toArray, List.set_cons_zero, List.set_cons_succ]
  refine Seq.light (v := ?_) (by kernel_rfl) ?_ ?_
  rotate_left 1
  focus (intro w hSw; (try dsimp only at hSw); go_simp; try with_reducible rfl)
  try simp only [Act.put, List.setIfInBounds_toArray, List.set_cons_zero, List.set_cons_succ]
  refine Seq.light (v := ?_) (by kernel_rfl) ?_ ?_
  rotate_left 1
  focus (intro w hSw; (try dsimp only at hSw); go_simp; try with_reducible rfl)
  try simp only [Act.put, List.setIfInBounds_toArray, List.set_cons_zero, List.set_cons_succ]
  refine Seq.light (v := ?_) (by kernel_rfl) ?_ ?_
  rotate_left 1
  focus (intro w hSw; (try dsimp only at hSw); go_simp; try with_reducible rfl)
  try simp only [Act.put, List.setIfInBounds_toArray, List.set_cons_zero, List.set_cons_succ]
  refine Seq.light (v := ?_) (by kernel_rfl) ?_ ?_
  rotate_left 1
  focus (intro w hSw; (try dsimp only at hSw); go_simp; try with_reducible rfl)
  try simp only [Act.put, List.setIfInBounds_toArray, List.set_cons_zero, List.set_cons_succ]
  refine Seq.light (v := ?_) (by kernel_rfl) ?_ ?_
  rotate_left 1
  focus (intro w hSw; (try dsimp only at hSw); go_simp; try with_reducible rfl)
  try simp only [Act.put, List.setIfInBounds_toArray, List.set_cons_zero, List.set_cons_succ]
  refine Seq.light (v := ?_) (by kernel_rfl) ?_ ?_
  rotate_left 1
  focus (intro w hSw; (try dsimp only at hSw); go_simp; try with_reducible rfl)
  try simp only [Act.put, List.setIfInBounds_toArray, List.set_cons_zero, List.set_cons_succ]
  refine Seq.light (v := ?_) (by kernel_rfl) ?_ ?_
  rotate_left 1
  focus (intro w hSw; (try dsimp only at hSw); go_simp; try with_reducible rfl)
  try simp only [Act.put, List.setIfInBounds_toArray, List.set_cons_zero, List.set_cons_succ]
  refine Seq.light (v := ?_) (by kernel_rfl) ?_ ?_
  rotate_left 1
  focus (intro w hSw; (try dsimp only at hSw); go_simp; try with_reducible rfl)
  try simp only [Act.put, List.setIfInBounds_toArray, List.set_cons_zero, List.set_cons_succ]
  refine Seq.light (v := ?_) (by kernel_rfl) ?_ ?_
  rotate_left 1
  focus (intro w hSw; (try dsimp only at hSw); go_simp; try with_reducible rfl)
  try simp only [Act.put, List.setIfInBounds_toArray, List.set_cons_zero, List.set_cons_succ]
  refine Seq.light (v := ?_) (by kernel_rfl) ?_ ?_
  rotate_left 1
  focus (intro w hSw; (try dsimp only at hSw); go_simp; try with_reducible rfl)
  try simp only [Act.put, List.setIfInBounds_toArray, List.set_cons_zero, List.set_cons_succ]
  refine Seq.light (v := ?_) (by kernel_rfl) ?_ ?_
  rotate_left 1
  focus (intro w hSw; (try dsimp only at hSw); go_simp; try with_reducible rfl)
  try simp only [Act.put, List.setIfInBounds_toArray, List.set_cons_zero, List.set_cons_succ]
  refine Seq.light (v := ?_) (by kernel_rfl) ?_ ?_
  rotate_left 1
  focus (intro w hSw; (try dsimp only at hSw); go_simp; try with_reducible rfl)
  try simp only [Act.put, List.setIfInBounds_toArray, List.set_cons_zero, List.set_cons_succ]
  refine Seq.light (v := ?_) (by kernel_rfl) ?_ ?_
  rotate_left 1
  focus (intro w hSw; (try dsimp only at hSw); go_simp; try with_reducible rfl)
  try simp only [Act.put, List.setIfInBounds_toArray, List.set_cons_zero, List.set_cons_succ]
  refine Seq.light (v := ?_) (by kernel_rfl) ?_ ?_
  rotate_left 1
  focus (intro w hSw; (try dsimp only at hSw); go_simp; try with_reducible rfl)
  try simp only [Act.put, List.setIfInBounds_toArray, List.set_cons_zero, List.set_cons_succ]
  refine Seq.light (v := ?_) (by kernel_rfl) ?_ ?_
  rotate_left 1
  focus (intro w hSw; (try dsimp only at hSw); go_simp; try with_reducible rfl)
  try simp only [Act.put, List.setIfInBounds_toArray, List.set_cons_zero, List.set_cons_succ]
  refine Seq.light (v := ?_) (by kernel_rfl) ?_ ?_
  rotate_left 1
  focus (intro w hSw; (try dsimp only at hSw); go_simp; try with_reducible rfl)
  try simp only [Act.put, List.setIfInBounds_toArray, List.set_cons_zero, List.set_cons_succ]
  refine Seq.light (v := ?_) (by kernel_rfl) ?_ ?_
  rotate_left 1
  focus (intro w hSw; (try dsimp only at hSw); go_simp; try with_reducible rfl)
  try simp only [Act.put, List.setIfInBounds_toArray, List.set_cons_zero, List.set_cons_succ]
  refine Seq.light (v := ?_) (by kernel_rfl) ?_ ?_
  rotate_left 1
  focus (intro w hSw; (try dsimp only at hSw); go_simp; try with_reducible rfl)
  try simp only [Act.put, List.setIfInBounds_toArray, List.set_cons_zero, List.set_cons_succ]
  refine Seq.light (v := ?_) (by kernel_rfl) ?_ ?_
  rotate_left 1
  focus (intro w hSw; (try dsimp only at hSw); go_simp; try with_reducible rfl)
  try simp only [Act.put, List.setIfInBounds_toArray, List.set_cons_zero, List.set_cons_succ]
  refine Seq.light (v := ?_) (by kernel_rfl) ?_ ?_
  rotate_left 1
  focus (intro w hSw; (try dsimp only at hSw); go_simp; try with_reducible rfl)
  try simp only [Act.put, List.setIfInBounds_toArray, List.set_cons_zero, List.set_cons_succ]
  refine Seq.nil fun w3 hS3 => ?_
  have HF := Lib.hid hS3
  clear hS3
  go_wp2
  go_ret2
  exact ⟨by rw [HMV.out]; rfl, HF.out.2.2.2.2.2.2.1⟩
end Go.Proofs.YtcioejacijkbcaaGreatDoor.Ba
