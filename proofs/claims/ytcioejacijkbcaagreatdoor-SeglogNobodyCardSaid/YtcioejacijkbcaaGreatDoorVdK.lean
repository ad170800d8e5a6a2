/- vdisk: Append that is refused; a disk that nobody made. -/
import Derived.Test.YtcioejacijkbcaaGreatDoorVdJ
namespace Go.Proofs.YtcioejacijkbcaaGreatDoor.Vd
open Go.RowKit Go.Maps Go.ChangeMaps Go.WideMaps
set_option linter.unusedVariables false

theorem append_full {w : World} {bd bm room : Nat} {fs : List Fil} (D : DiskAt w bd bm room fs) (s t : ByteArray) (hG : Good s) (hs : ∀ f ∈ fs, f.name ≠ s) (hlen : fs.length = 256) :
    Calls Tryz.prog 60 #[.pointer (some ⟨bd, 0, none⟩), .string s, .string t] w fun e w' => e = .returned (.int .i64 2) ∧ Below w.heap.size w w' := by
  have HD := Lib.hid D
  have HS := Lib.hid hs
  have HG := Lib.hid hG
  have d0 : decide ((256 : Int) ≤ (fs.length : Int)) = true := by simp; omega
  clear D hs hG hlen
  go_enter Tryz.func60, Tryz.ntmps60
  go_wp2_with fail
  refine (find_none HD.out s HG.out HS.out).mono ?_
  rintro e w1 ⟨rfl, hb⟩
  have D1 := HD.out.below hb
  have hc0 := cell_of D1.disk 0
  have hln := len_map D1.map
  simp only [List.getElem?_toArray, List.getElem?_cons_zero] at hc0
  simp only [List.length_map] at hln
  clear D1
  go_wp2
  go_ret
  exact ⟨rfl, hb⟩
set_option maxRecDepth 100000 in
set_option maxHeartbeats 400000 in
theorem append_noroom_new {w : World} {bd bm room : Nat} {fs : List Fil} (D : DiskAt w bd bm room fs) (s t : ByteArray) (hG : Good s) (hs : ∀ f ∈ fs, f.name ≠ s) (hlen : fs.length < 256) (ht : t.size ≤ 140737488351232) (h : room < total fs + t.size) :
    Calls Tryz.prog 60 #[.pointer (some ⟨bd, 0, none⟩), .string s, .string t] w fun e w' => e = .returned (.int .i64 80) ∧ Below w.heap.size w w' := by
  have hsm := D.small
  have hrm := D.roomy
  have HD := Lib.hid D
  have HS := Lib.hid hs
  have HG := Lib.hid hG
  clear D hs hG
  go_enter Tryz.func60, Tryz.ntmps60
  go_wp2_with fail
  refine (find_none HD.out s HG.out HS.out).mono ?_
  rintro e w1 ⟨rfl, hb⟩
  have D1 := HD.out.below hb
  have hc0 := cell_of D1.disk 0
  have hc1 := cell_of D1.disk 1
  have hln := len_map D1.map
  simp only [List.getElem?_toArray, List.getElem?_cons_zero, List.getElem?_cons_succ] at hc0 hc1
  simp only [List.length_map] at hln
  have H1 := Lib.hid D1
  clear D1
  have H1d := Lib.hid (H1.out.below (Below.refl w1.heap.size w1).drew)
  have hbd : bd < w1.heap.size := lt_of_heap H1.out.disk
  have d0 : decide ((256 : Int) ≤ (fs.length : Int)) = false := by simp; omega
  have d1 : decide ((room : Int) - (total fs : Int) < (t.size : Int)) = true := by simp; omega
  have hsub : IntKind.i64.wrap ((room : Int) - (total fs : Int)) = (room : Int) - (total fs : Int) := IntWalk.i64_in _ (by omega)
  go_wp2_with fail
  go_region_with (go_at_call 101; refine (used_yes H1d.out).mono ?_; rintro e w2 ⟨rfl, hb2⟩; have hc2 : w2.cell? ⟨bd, 1, none⟩ = some (.int .i64 room) := (Below.cell (w := w1.drew) hb2 (p := ⟨bd, 1, none⟩) hbd).trans hc1)
  all_goals
    go_wp2
    go_ret
    exact ⟨rfl, hb.trans ((Below.drew (Below.refl w1.heap.size w1)).trans hb2 |>.mono hb.size)⟩

/-- nil, or a disk without a map -/
def Nobody (w : World) (p : Option Addr) : Prop := ∀ a, p = some a → ∃ b, a = ⟨b, 0, none⟩ ∧ w.cell? ⟨b, 0, none⟩ = some (.map none)
theorem given_nobody (w : World) (p : Option Addr) (hp : Nobody w p) : Calls Tryz.prog 73 #[.pointer p] w fun e w' => e = .returned (.bool false) ∧ w = w' := by
  rcases p with _ | a
  · exact given_nil w
  · obtain ⟨b, rfl, hc⟩ := hp a rfl
    exact given_any w b none hc
theorem append_nobody (w : World) (p : Option Addr) (s t : ByteArray) (hp : Nobody w p) :
    Calls Tryz.prog 60 #[.pointer p, .string s, .string t] w fun e w' => e = .returned (.int .i64 1) ∧ w = w' := by
  have HP := Lib.hid hp
  clear hp
  go_enter Tryz.func60, Tryz.ntmps60
  go_wp2_with fail
  refine (find_nobody _ p s HP.out).mono ?_
  rintro e w1 ⟨rfl, rfl⟩
  go_wp2
  go_ret
  exact ⟨rfl, rfl⟩
theorem sync_nobody (w : World) (p : Option Addr) (s : ByteArray) (hp : Nobody w p) :
    Calls Tryz.prog 63 #[.pointer p, .string s] w fun e w' => e = .returned (.int .i64 1) ∧ w = w' := by
  have HP := Lib.hid hp
  clear hp
  go_enter Tryz.func63, Tryz.ntmps63
  go_wp2_with fail
  refine (find_nobody _ p s HP.out).mono ?_
  rintro e w1 ⟨rfl, rfl⟩
  go_wp2
  go_ret
  exact ⟨rfl, rfl⟩
theorem cut_nobody (w : World) (p : Option Addr) (s : ByteArray) (n : Int) (hp : Nobody w p) :
    Calls Tryz.prog 83 #[.pointer p, .string s, .int .i64 n] w fun e w' => e = .returned (.int .i64 1) ∧ w = w' := by
  have HP := Lib.hid hp
  clear hp
  go_enter Tryz.func83, Tryz.ntmps83
  go_wp2_with fail
  refine (find_nobody _ p s HP.out).mono ?_
  rintro e w1 ⟨rfl, rfl⟩
  go_wp2
  go_ret
  exact ⟨rfl, rfl⟩
theorem read_nobody (w : World) (p : Option Addr) (s : ByteArray) (n m : Int) (hp : Nobody w p) :
    Calls Tryz.prog 28 #[.pointer p, .string s, .int .i64 n, .int .i64 m] w fun e w' => e = .returned (.tuple #[.string { data := #[] }, .int .i64 1]) ∧ w = w' := by
  have HP := Lib.hid hp
  clear hp
  go_enter Tryz.func28, Tryz.ntmps28
  go_wp2_with fail
  refine (find_nobody _ p s HP.out).mono ?_
  rintro e w1 ⟨rfl, rfl⟩
  go_wp2
  go_ret2
  exact ⟨rfl, rfl⟩
theorem names_nobody (w : World) (p : Option Addr) (hp : Nobody w p) :
    Calls Tryz.prog 38 #[.pointer p] w fun e w' => e = .returned (.slice none 0 0) ∧ w = w' := by
  have HP := Lib.hid hp
  clear hp
  go_enter Tryz.func38, Tryz.ntmps38
  go_wp2_with fail
  refine (given_nobody _ p HP.out).mono ?_
  rintro e w1 ⟨rfl, rfl⟩
  go_wp2
  go_ret
  exact ⟨rfl, rfl⟩
theorem used_nobody (w : World) (p : Option Addr) (hp : Nobody w p) :
    Calls Tryz.prog 101 #[.pointer p] w fun e w' => e = .returned (.int .i64 0) ∧ w = w' := by
  have HP := Lib.hid hp
  clear hp
  go_enter Tryz.func101, Tryz.ntmps101
  go_wp2_with fail
  refine (given_nobody _ p HP.out).mono ?_
  rintro e w1 ⟨rfl, rfl⟩
  go_wp2
  go_ret
  exact ⟨rfl, rfl⟩
end Go.Proofs.YtcioejacijkbcaaGreatDoor.Vd
