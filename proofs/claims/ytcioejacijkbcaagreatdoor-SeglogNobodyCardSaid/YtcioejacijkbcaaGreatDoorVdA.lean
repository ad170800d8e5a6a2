/- vdisk: names, given, New: contracts. A name here is one of printable ASCII bytes, 1 to 32, or empty. -/
import Derived.Test.YtcioejacijkbcaaGreatDoorProg
import Derived.WalkKit
import Derived.Below
import Derived.BigQuiet
import Derived.WalkSpells
import Derived.Deep.QuietTactic
import Derived.Laws.RangeString
namespace Go.Proofs.YtcioejacijkbcaaGreatDoor.Vd
open Go.RowKit
set_option linter.unusedVariables false

/-- a name that may be -/
def Good (s : ByteArray) : Prop := 1 ≤ s.size ∧ s.size ≤ 32 ∧ ∀ i (h : i < s.size), 33 ≤ (s[i]'h).toNat ∧ (s[i]'h).toNat ≤ 126

theorem given_nil (w : World) : Calls Tryz.prog 73 #[.pointer none] w fun e w' => e = .returned (.bool false) ∧ w = w' := by
  go_enter Tryz.func73, Tryz.ntmps73
  go_wp2
  go_ret
  exact ⟨rfl, rfl⟩
theorem given_any (w : World) (b : Nat) (m : Option Nat) (h : w.cell? ⟨b, 0, none⟩ = some (.map m)) : Calls Tryz.prog 73 #[.pointer (some ⟨b, 0, none⟩)] w fun e w' => e = .returned (.bool m.isSome) ∧ w = w' := by
  have hne := run_neq_map_nil (P := Tryz.prog) w _ _ _ m Tryz.underlying92
  go_enter Tryz.func73, Tryz.ntmps73
  go_wp2
  go_ret
  cases m <;> exact ⟨rfl, rfl⟩
theorem new_yes (w : World) (room : Int) (h0 : 0 ≤ room) (h1 : room ≤ 16777216) : Calls Tryz.prog 18 #[.int .i64 room] w fun e w' => e = .returned (.tuple #[.pointer (some ⟨w.heap.size + 1, 0, none⟩), .int .i64 0]) ∧ w' = (w.alloc (.map #[] 0)).alloc (.cells #[.map (some w.heap.size), .int .i64 room] 94) := by
  have hmm := @run_makeMap Tryz.prog
  go_enter Tryz.func18, Tryz.ntmps18
  go_wp2
  go_ret2
  exact ⟨rfl, rfl⟩
theorem bad_no (w : World) (c : Nat) (h1 : 33 ≤ c) (h2 : c ≤ 126) : Calls Tryz.prog 141 #[.int .i32 c] w fun e w' => e = .returned (.bool false) ∧ w = w' := by
  have d1 : decide ((c : Int) < 33) = false := by simp; omega
  have d2 : decide (126 < (c : Int)) = false := by simp; omega
  go_enter Tryz.func141, Tryz.ntmps141
  go_wp2
  go_ret
  exact ⟨rfl, rfl⟩
set_option maxRecDepth 100000 in
theorem index_none (w : World) (s : ByteArray) (hs : s.size ≤ 32) (h : ∀ i (h : i < s.size), 33 ≤ (s[i]'h).toNat ∧ (s[i]'h).toNat ≤ 126) :
    Calls Tryz.prog 237 #[.string s, .func (.func 141) #[] #[], .bool true] w fun e w' => e = .returned (.int .i64 (-1)) ∧ Below w.heap.size w w' := by
  go_enter Tryz.func237, Tryz.ntmps237
  go_wp2
  go_loopw [7, 8] (fun _ _ w' => ∃ pos : Nat, w' = w.iter s pos) (fun _ _ w' => s.size - w'.iterPos w.heap.size)
  case atStart => exact ⟨0, rfl⟩
  case round =>
    obtain ⟨pos, rfl⟩ := hrel
    by_cases hp : pos < s.size
    · obtain ⟨c1, c2⟩ := h pos hp
      have hnx : ∀ ty, (Instr.next (.pointer (some ⟨w.heap.size, 0, none⟩)) true ty).run Tryz.prog (w.iter s pos) = _ := fun ty => run_next_ascii w s pos ty hp (by omega)
      go_wp2_with (go_at_call 141; refine (bad_no _ _ c1 c2).mono ?_; rintro e w' ⟨rfl, rfl⟩)
      go_roundw
      case rel => exact ⟨pos + 1, rfl⟩
      case measure => simp; omega
    · have hnx : ∀ ty, (Instr.next (.pointer (some ⟨w.heap.size, 0, none⟩)) true ty).run Tryz.prog (w.iter s pos) = _ := fun ty => run_next_end w s pos ty hp
      go_wp2
      go_ret
      exact ⟨rfl, (Below.refl _ _).alloc (Nat.le_refl _) _⟩
theorem contains_none (w : World) (s : ByteArray) (hs : s.size ≤ 32) (h : ∀ i (h : i < s.size), 33 ≤ (s[i]'h).toNat ∧ (s[i]'h).toNat ≤ 126) :
    Calls Tryz.prog 140 #[.string s, .func (.func 141) #[] #[]] w fun e w' => e = .returned (.bool false) ∧ Below w.heap.size w w' := by
  go_enter Tryz.func140, Tryz.ntmps140
  go_wp2_with (first | (go_at_call 237; refine (index_none _ _ hs h).mono ?_; rintro e w' ⟨rfl, hb⟩) | go_in)
  go_ret
  exact ⟨rfl, hb⟩
theorem named_yes (w : World) (s : ByteArray) (h : Good s) : Calls Tryz.prog 102 #[.string s] w fun e w' => e = .returned (.bool true) ∧ Below w.heap.size w w' := by
  obtain ⟨h1, h2, h3⟩ := h
  have hne : ¬ s.toList = [] := by
    intro e
    have hl : s.toList.length = s.size := by rw [ByteArray.toList_eq]; simp
    rw [e] at hl; simp at hl; omega
  have hne2 : s.toList.isEmpty = false := by simpa using hne
  go_enter Tryz.func102, Tryz.ntmps102
  go_wp2_with (first | (go_at_call 140; refine (contains_none _ _ h2 h3).mono ?_; rintro e w' ⟨rfl, hb⟩))
  go_ret
  exact ⟨rfl, hb⟩
end Go.Proofs.YtcioejacijkbcaaGreatDoor.Vd
