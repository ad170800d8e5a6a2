/- segment: given; a segment that nobody opened; what is read of one. -/
import Derived.Test.YtcioejacijkbcaaGreatDoorBaP
import Derived.Test.YtcioejacijkbcaaGreatDoorVdO
namespace Go.Proofs.YtcioejacijkbcaaGreatDoor.Sg
open Go.RowKit Go.Maps Go.ChangeMaps Go.WideMaps Go.Proofs.YtcioejacijkbcaaGreatDoor.Vd
set_option linter.unusedVariables false
def Nobody (w : World) (p : Option Addr) : Prop := ∀ a, p = some a → ∃ b, a = ⟨b, 0, none⟩ ∧ w.cell? ⟨b, 0, none⟩ = some (.pointer none)
theorem given_nil (w : World) : Calls Tryz.prog 55 #[.pointer none] w fun e w' => e = .returned (.bool false) ∧ w = w' := by
  go_enter Tryz.func55, Tryz.ntmps55
  go_wp2
  go_ret
  exact ⟨rfl, rfl⟩
theorem given_no (w : World) (b : Nat) (h : w.cell? ⟨b, 0, none⟩ = some (.pointer none)) : Calls Tryz.prog 55 #[.pointer (some ⟨b, 0, none⟩)] w fun e w' => e = .returned (.bool false) ∧ w = w' := by
  go_enter Tryz.func55, Tryz.ntmps55
  go_wp2
  go_ret
  exact ⟨rfl, rfl⟩
theorem given_yes (w : World) (b : Nat) (d : Addr) (h : w.cell? ⟨b, 0, none⟩ = some (.pointer (some d))) : Calls Tryz.prog 55 #[.pointer (some ⟨b, 0, none⟩)] w fun e w' => e = .returned (.bool true) ∧ w = w' := by
  go_enter Tryz.func55, Tryz.ntmps55
  go_wp2
  go_ret
  exact ⟨rfl, rfl⟩
theorem given_nobody (w : World) (p : Option Addr) (hp : Nobody w p) : Calls Tryz.prog 55 #[.pointer p] w fun e w' => e = .returned (.bool false) ∧ w = w' := by
  rcases p with _ | a
  · exact given_nil w
  · obtain ⟨b, rfl, hc⟩ := hp a rfl
    exact given_no w b hc
theorem append_nobody (w : World) (p : Option Addr) (s : ByteArray) (hp : Nobody w p) :
    Calls Tryz.prog 26 #[.pointer p, .string s] w fun e w' => e = .returned (.int .i64 1) ∧ w = w' := by
  have HP := Lib.hid hp
  clear hp
  go_enter Tryz.func26, Tryz.ntmps26
  go_wp2_with fail
  refine (given_nobody _ p HP.out).mono ?_
  rintro e w1 ⟨rfl, rfl⟩
  go_wp2
  go_ret
  exact ⟨rfl, rfl⟩
theorem sync_nobody (w : World) (p : Option Addr) (hp : Nobody w p) :
    Calls Tryz.prog 45 #[.pointer p] w fun e w' => e = .returned (.int .i64 1) ∧ w = w' := by
  have HP := Lib.hid hp
  clear hp
  go_enter Tryz.func45, Tryz.ntmps45
  go_wp2_with fail
  refine (given_nobody _ p HP.out).mono ?_
  rintro e w1 ⟨rfl, rfl⟩
  go_wp2
  go_ret
  exact ⟨rfl, rfl⟩
theorem cut_nobody (w : World) (p : Option Addr) (n : Int) (hp : Nobody w p) :
    Calls Tryz.prog 47 #[.pointer p, .int .i64 n] w fun e w' => e = .returned (.int .i64 1) ∧ w = w' := by
  have HP := Lib.hid hp
  clear hp
  go_enter Tryz.func47, Tryz.ntmps47
  go_wp2_with fail
  refine (given_nobody _ p HP.out).mono ?_
  rintro e w1 ⟨rfl, rfl⟩
  go_wp2
  go_ret
  exact ⟨rfl, rfl⟩
theorem base_nobody (w : World) (p : Option Addr) (hp : Nobody w p) :
    Calls Tryz.prog 27 #[.pointer p] w fun e w' => e = .returned (.int .i64 0) ∧ w = w' := by
  have HP := Lib.hid hp
  clear hp
  go_enter Tryz.func27, Tryz.ntmps27
  go_wp2_with fail
  refine (given_nobody _ p HP.out).mono ?_
  rintro e w1 ⟨rfl, rfl⟩
  go_wp2
  go_ret
  exact ⟨rfl, rfl⟩
theorem end_nobody (w : World) (p : Option Addr) (hp : Nobody w p) :
    Calls Tryz.prog 22 #[.pointer p] w fun e w' => e = .returned (.int .i64 0) ∧ w = w' := by
  have HP := Lib.hid hp
  clear hp
  go_enter Tryz.func22, Tryz.ntmps22
  go_wp2_with fail
  refine (given_nobody _ p HP.out).mono ?_
  rintro e w1 ⟨rfl, rfl⟩
  go_wp2
  go_ret
  exact ⟨rfl, rfl⟩
theorem size_nobody (w : World) (p : Option Addr) (hp : Nobody w p) :
    Calls Tryz.prog 24 #[.pointer p] w fun e w' => e = .returned (.int .i64 0) ∧ w = w' := by
  have HP := Lib.hid hp
  clear hp
  go_enter Tryz.func24, Tryz.ntmps24
  go_wp2_with fail
  refine (given_nobody _ p HP.out).mono ?_
  rintro e w1 ⟨rfl, rfl⟩
  go_wp2
  go_ret
  exact ⟨rfl, rfl⟩
theorem batch_nobody (w : World) (p : Option Addr) (n : Int) (hp : Nobody w p) :
    Calls Tryz.prog 42 #[.pointer p, .int .i64 n] w fun e w' => e = .returned (.tuple #[.string { data := #[] }, .int .i64 1]) ∧ w = w' := by
  have HP := Lib.hid hp
  clear hp
  go_enter Tryz.func42, Tryz.ntmps42
  go_wp2_with fail
  refine (given_nobody _ p HP.out).mono ?_
  rintro e w1 ⟨rfl, rfl⟩
  go_wp2
  go_ret2
  exact ⟨rfl, rfl⟩
/-- a segment: its cells, and its marks -/
structure SgAt (w : World) (bs bd : Nat) (name : ByteArray) (base en size n : Nat) (mv : Value) (ms : List (Nat × Nat)) : Prop where
  cell : w.heap[bs]? = some (.cells #[.pointer (some ⟨bd, 0, none⟩), .string name, .int .i64 base, .int .i64 en, .int .i64 size, .int .i64 n, mv] 99 (0, 0))
  own : w.ownsRow 0 144 2 mv ms.length (ms.flatMap fun m => [.int .i64 m.1, .int .i64 m.2])
theorem cells7 {w : World} {b : Nat} {v0 v1 v2 v3 v4 v5 v6 : Value} {t : TypeId} {fr : Nat × Nat} (h : w.heap[b]? = some (.cells #[v0, v1, v2, v3, v4, v5, v6] t fr)) :
    w.cell? ⟨b, 0, none⟩ = some v0 ∧ w.cell? ⟨b, 1, none⟩ = some v1 ∧ w.cell? ⟨b, 2, none⟩ = some v2 ∧ w.cell? ⟨b, 3, none⟩ = some v3 ∧ w.cell? ⟨b, 4, none⟩ = some v4 ∧ w.cell? ⟨b, 5, none⟩ = some v5 ∧ w.cell? ⟨b, 6, none⟩ = some v6 :=
  ⟨cell_of h 0, cell_of h 1, cell_of h 2, cell_of h 3, cell_of h 4, cell_of h 5, cell_of h 6⟩
theorem base_yes {w : World} {bs bd : Nat} {name : ByteArray} {base en size n : Nat} {mv : Value} {ms : List (Nat × Nat)} (S : SgAt w bs bd name base en size n mv ms) :
    Calls Tryz.prog 27 #[.pointer (some ⟨bs, 0, none⟩)] w fun e w' => e = .returned (.int .i64 base) ∧ w = w' := by
  obtain ⟨c0, c1, c2, c3, c4, c5, c6⟩ := cells7 S.cell
  clear S
  go_enter Tryz.func27, Tryz.ntmps27
  go_wp2_with fail
  refine (given_yes _ bs _ c0).mono ?_
  rintro e w1 ⟨rfl, rfl⟩
  go_wp2
  go_ret
  exact ⟨rfl, rfl⟩
theorem end_yes {w : World} {bs bd : Nat} {name : ByteArray} {base en size n : Nat} {mv : Value} {ms : List (Nat × Nat)} (S : SgAt w bs bd name base en size n mv ms) :
    Calls Tryz.prog 22 #[.pointer (some ⟨bs, 0, none⟩)] w fun e w' => e = .returned (.int .i64 en) ∧ w = w' := by
  obtain ⟨c0, c1, c2, c3, c4, c5, c6⟩ := cells7 S.cell
  clear S
  go_enter Tryz.func22, Tryz.ntmps22
  go_wp2_with fail
  refine (given_yes _ bs _ c0).mono ?_
  rintro e w1 ⟨rfl, rfl⟩
  go_wp2
  go_ret
  exact ⟨rfl, rfl⟩
theorem size_yes {w : World} {bs bd : Nat} {name : ByteArray} {base en size n : Nat} {mv : Value} {ms : List (Nat × Nat)} (S : SgAt w bs bd name base en size n mv ms) :
    Calls Tryz.prog 24 #[.pointer (some ⟨bs, 0, none⟩)] w fun e w' => e = .returned (.int .i64 size) ∧ w = w' := by
  obtain ⟨c0, c1, c2, c3, c4, c5, c6⟩ := cells7 S.cell
  clear S
  go_enter Tryz.func24, Tryz.ntmps24
  go_wp2_with fail
  refine (given_yes _ bs _ c0).mono ?_
  rintro e w1 ⟨rfl, rfl⟩
  go_wp2
  go_ret
  exact ⟨rfl, rfl⟩
end Go.Proofs.YtcioejacijkbcaaGreatDoor.Sg
