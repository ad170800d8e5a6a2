/- segment: Open: a name that may not be, a base that may not be, a file that is not there. -/
import Derived.Test.YtcioejacijkbcaaGreatDoorSgC
namespace Go.Proofs.YtcioejacijkbcaaGreatDoor.Vd
open Go.RowKit Go.Maps Go.ChangeMaps Go.WideMaps
set_option linter.unusedVariables false
theorem named_empty (w : World) : Calls Tryz.prog 102 #[.string { data := #[] }] w fun e w' => e = .returned (.bool false) ∧ w = w' := by
  go_enter Tryz.func102, Tryz.ntmps102
  go_wp2
  go_ret
  exact ⟨rfl, rfl⟩
theorem find_empty {w : World} {bd bm room : Nat} {fs : List Fil} (D : DiskAt w bd bm room fs) :
    Calls Tryz.prog 62 #[.pointer (some ⟨bd, 0, none⟩), .string { data := #[] }] w fun e w' => e = .returned (.tuple #[.pointer none, .int .i64 1]) ∧ w = w' := by
  have hc := cell_of D.disk 0
  simp only [List.getElem?_toArray, List.getElem?_cons_zero] at hc
  clear D
  go_enter Tryz.func62, Tryz.ntmps62
  go_wp2_with fail
  refine (given_any w bd (some bm) hc).mono ?_
  rintro e w' ⟨rfl, rfl⟩
  go_wp2_with fail
  refine (named_empty _).mono ?_
  rintro e w1 ⟨rfl, rfl⟩
  go_wp2
  go_ret2
  exact ⟨rfl, rfl⟩
theorem read_empty {w : World} {bd bm room : Nat} {fs : List Fil} (D : DiskAt w bd bm room fs) (a n : Int) :
    Calls Tryz.prog 28 #[.pointer (some ⟨bd, 0, none⟩), .string { data := #[] }, .int .i64 a, .int .i64 n] w fun e w' => e = .returned (.tuple #[.string { data := #[] }, .int .i64 1]) ∧ w = w' := by
  have HD := Lib.hid D
  clear D
  go_enter Tryz.func28, Tryz.ntmps28
  go_wp2_with fail
  refine (find_empty HD.out).mono ?_
  rintro e w1 ⟨rfl, rfl⟩
  go_wp2
  go_ret2
  exact ⟨rfl, rfl⟩
theorem read_none {w : World} {bd bm room : Nat} {fs : List Fil} (D : DiskAt w bd bm room fs) (s : ByteArray) (hG : Good s) (hs : ∀ f ∈ fs, f.name ≠ s) :
    Calls Tryz.prog 28 #[.pointer (some ⟨bd, 0, none⟩), .string s, .int .i64 0, .int .i64 0] w fun e w' => e = .returned (.tuple #[.string { data := #[] }, .int .i64 3]) ∧ Below w.heap.size w w' := by
  have HD := Lib.hid D
  have HS := Lib.hid hs
  clear D hs
  go_enter Tryz.func28, Tryz.ntmps28
  go_wp2_with fail
  refine (find_none HD.out s hG HS.out).mono ?_
  rintro e w1 ⟨rfl, hb⟩
  go_wp2
  go_ret2
  exact ⟨rfl, hb⟩
end Go.Proofs.YtcioejacijkbcaaGreatDoor.Vd
namespace Go.Proofs.YtcioejacijkbcaaGreatDoor.Sg
open Go.RowKit Go.Maps Go.ChangeMaps Go.WideMaps Go.Proofs.YtcioejacijkbcaaGreatDoor.Vd Go.Proofs.YtcioejacijkbcaaGreatDoor.Rc Go.Proofs.YtcioejacijkbcaaGreatDoor.Ba
set_option linter.unusedVariables false
set_option linter.unusedSimpArgs false
theorem open_arg (w : World) (p : Option Addr) (s : ByteArray) (base : Int)
    (hr : Calls Tryz.prog 28 #[.pointer p, .string s, .int .i64 0, .int .i64 0] w fun e w' => e = .returned (.tuple #[.string { data := #[] }, .int .i64 1]) ∧ w = w') :
    Calls Tryz.prog 71 #[.pointer p, .string s, .int .i64 base] w fun e w' => e = .returned (.tuple #[.pointer none, .int .i64 0, .int .i64 1]) ∧ w = w' := by
  have HR := Lib.hid hr
  clear hr
  go_enter Tryz.func71, Tryz.ntmps71
  go_wp2_with fail
  refine HR.out.mono ?_
  rintro e w1 ⟨rfl, rfl⟩
  go_wp2
  go_ret3
  exact ⟨rfl, rfl⟩
theorem open_base {w : World} {bd bm room : Nat} {fs : List Fil} (D : DiskAt w bd bm room fs) (s : ByteArray) (hG : Vd.Good s) (hs : ∀ f ∈ fs, f.name ≠ s) (base : Int) (hb : base < 0 ∨ 1099511627520 < base) :
    Calls Tryz.prog 71 #[.pointer (some ⟨bd, 0, none⟩), .string s, .int .i64 base] w fun e w' => e = .returned (.tuple #[.pointer none, .int .i64 0, .int .i64 1]) ∧ Below w.heap.size w w' := by
  have HD := Lib.hid D
  have HS := Lib.hid hs
  clear D hs
  go_enter Tryz.func71, Tryz.ntmps71
  go_wp2_with fail
  refine (Vd.read_none HD.out s hG HS.out).mono ?_
  rintro e w1 ⟨rfl, hb1⟩
  rcases hb with hb | hb
  · have d1 : decide (base < 0) = true := by simpa using hb
    go_wp2
    go_ret3
    exact ⟨rfl, hb1⟩
  · have d1 : decide (base < 0) = false := by simp; omega
    have d2 : decide (1099511627520 < base) = true := by simpa using hb
    go_wp2
    go_ret3
    exact ⟨rfl, hb1⟩
set_option maxRecDepth 100000 in
set_option maxHeartbeats 1000000 in
theorem open_new {w : World} {bd bm room : Nat} {fs : List Fil} (D : DiskAt w bd bm room fs) (s : ByteArray) (hG : Vd.Good s) (hs : ∀ f ∈ fs, f.name ≠ s) (base : Nat) (hb : base ≤ 1099511627520) :
    Calls Tryz.prog 71 #[.pointer (some ⟨bd, 0, none⟩), .string s, .int .i64 base] w fun e w' => ∃ b, e = .returned (.tuple #[.pointer (some ⟨b, 0, none⟩), .int .i64 0, .int .i64 0]) ∧ w.heap.size ≤ b ∧ SgAt w' b bd s base base 0 0 (.slice none 0 0) [] ∧ Below w.heap.size w w' := by
  have HD := Lib.hid D
  have HS := Lib.hid hs
  have d1 : decide ((base : Int) < 0) = false := by simp
  have d2 : decide (1099511627520 < (base : Int)) = false := by simp; omega
  clear D hs hb
  go_enter Tryz.func71, Tryz.ntmps71
  go_wp2_with fail
  refine (Vd.read_none HD.out s hG HS.out).mono ?_
  rintro e w1 ⟨rfl, hb1⟩
  go_upto_region 5 with (fail)
  refine genw ?_
  intro W hW
  have hBW : Below w.heap.size w W := by rw [hW]; exact hb1.alloc hb1.size _
  have hcell : W.heap[w1.heap.size]? = some (.cells #[.pointer (some ⟨bd, 0, none⟩), .string s, .int .i64 base, .int .i64 base, .int .i64 ((0 : Nat) : Int), .int .i64 ((0 : Nat) : Int), .slice none 0 0] 99 (0, 0)) := by rw [hW]; exact heap_alloc_last w1 _
  have hbk : w.heap.size ≤ w1.heap.size := hb1.size
  clear hW
  generalize w1.heap.size = bk at hcell hbk ⊢
  have SW : SgAt W bk bd s base base 0 0 (.slice none 0 0) [] := ⟨hcell, ⟨rfl, .inl ⟨rfl, rfl⟩⟩⟩
  have HSW := Lib.hid SW
  have HBW := Lib.hid hBW
  have HBK := Lib.hid hbk
  clear SW hcell hBW hbk hb1
  have hmx : max (0 : Int) (-1) = 0 := rfl
  go_wp2_with fail
  refine (size_none (HD.out.below HBW.out) s hG HS.out).mono ?_
  rintro e w2 ⟨rfl, hb2⟩
  have HB2 := Lib.hid (HBW.out.trans (hb2.mono HBW.out.size))
  have HS2 := Lib.hid (HSW.out.below hb2)
  clear hb2
  go_wp2_with fail
  refine (Vd.read_none (HD.out.below HB2.out) s hG HS.out).mono ?_
  rintro e w3 ⟨rfl, hb3⟩
  have HB3 := Lib.hid (HB2.out.trans (hb3.mono HB2.out.size))
  have HS3 := Lib.hid (HS2.out.below hb3)
  clear hb3 HSW HBW HB2 HS2
  go_wp2_with fail
  obtain ⟨c0, c1, c2, c3, c4, c5, c6⟩ := cells7 HS3.out.cell
  go_loopw [17] (fun v w' => w' = w3) (fun _ _ => 0)
  case atStart => rfl
  case round =>
    subst hrel
    go_wp2_with fail
    refine (of_few { data := #[] } (by decide) _).mono ?_
    rintro e w4 ⟨rfl, hb4⟩
    have HB4 := Lib.hid (HB3.out.trans (hb4.mono HB3.out.size))
    have HS4 := Lib.hid (HS3.out.below hb4)
    clear c0 c1 c2 c3 c4 c5 c6 HB3 HS3 hb4
    unfold zb
    go_upto_region 8 with (fail)
    refine genw ?_
    intro W5 hW5
    have hz : w4.heap.size ≤ w4.heap.size := Nat.le_refl _
    have hb5 : Below w4.heap.size w4 W5 := by rw [hW5]; exact (Below.refl w4.heap.size w4).alloc hz _
    have HB5 := Lib.hid (HB4.out.trans (hb5.mono HB4.out.size))
    have HS5 := Lib.hid (HS4.out.below hb5)
    clear hb5 hW5 HB4 HS4
    obtain ⟨c0, c1, c2, c3, c4, c5, c6⟩ := cells7 HS5.out.cell
    go_quiet (fail)
    go_wp2_with fail
    go_quiet (fail)
    go_wp2
    go_ret3
    exact ⟨bk, rfl, HBK.out, HS5.out.below ⟨rfl, rfl, rfl, Nat.le_refl _, fun _ _ => rfl⟩, HB5.out.trans ⟨rfl, rfl, rfl, Nat.le_refl _, fun _ _ => rfl⟩⟩
end Go.Proofs.YtcioejacijkbcaaGreatDoor.Sg
