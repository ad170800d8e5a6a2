/- vdisk: what only reads: Size, Synced, Read. -/
import Derived.Test.YtnhemmjbodhjeaaGreatVdC
import Derived.Laws.BytesArg
namespace Go.Proofs.YtnhemmjbodhjeaaGreat.Vd
open Go.RowKit Go.Maps Go.ChangeMaps Go.WideMaps
set_option linter.unusedVariables false

theorem FilAt.slice {w : World} {f : Fil} (h : FilAt w f) : ∃ ap c, f.v = .slice ap f.b.length c ∧ (ap = none → f.b = []) ∧ f.b.length ≤ c ∧ ∀ a, ap = some a → a.off = 0 ∧ a.spot = none ∧ f.v.ownBlock = some a.block := by
  rcases h.own.2 with ⟨h1, h2⟩ | ⟨g, cap, cur, h1, _, _, h4, _⟩
  · exact ⟨none, 0, by rw [h1, h2], fun _ => List.length_eq_zero_iff.1 h2, by omega, by simp⟩
  · exact ⟨_, _, h1, by simp, h4, fun a ha => by cases ha; exact ⟨rfl, rfl, by rw [h1]; rfl⟩⟩
theorem FilAt.byte {w : World} {f : Fil} (h : FilAt w f) {g : Nat} (hg : f.v.ownBlock = some g) (i : Nat) (hi : i < f.b.length) : w.cell? ⟨g, i, none⟩ = some (bv (f.b[i]'hi)) := by
  rcases h.own.2 with ⟨h1, h2⟩ | ⟨g', cap, cur, h1, _, h3, h4, _, h6, h7⟩
  · omega
  · rw [h1] at hg; simp [Value.ownBlock] at hg; subst hg
    rw [cell_of h3]
    have : (cur.toList.take (f.b.length * 1))[i]? = (f.b.map bv)[i]? := by rw [h7]
    rw [List.getElem?_take_of_lt (by omega), List.getElem?_map, List.getElem?_eq_getElem hi] at this
    simpa using this
theorem size_some {w : World} {bd bm room : Nat} {fs : List Fil} (D : DiskAt w bd bm room fs) (f : Fil) (hf : f ∈ fs) (s : ByteArray) (hs : f.name = s) :
    Calls Tryz.prog 18 #[.pointer (some ⟨bd, 0, none⟩), .string s] w fun e w' => e = .returned (.int .i64 f.b.length) ∧ Below w.heap.size w w' := by
  have HD := Lib.hid D
  have HS := Lib.hid hs
  clear D hs
  go_enter Tryz.func18, Tryz.ntmps18
  go_wp2_with fail
  refine (find_some HD.out f hf s HS.out).mono ?_
  rintro e w1 ⟨rfl, hb⟩
  obtain ⟨ap, c, hv, -⟩ := ((HD.out.below hb).files f hf).slice
  have hc := cell_of ((HD.out.below hb).files f hf).cell 0
  simp only [List.getElem?_toArray, List.getElem?_cons_zero, hv] at hc
  clear hv
  go_wp2
  go_ret
  exact ⟨rfl, hb⟩
theorem size_none {w : World} {bd bm room : Nat} {fs : List Fil} (D : DiskAt w bd bm room fs) (s : ByteArray) (hG : Good s) (hs : ∀ f ∈ fs, f.name ≠ s) :
    Calls Tryz.prog 18 #[.pointer (some ⟨bd, 0, none⟩), .string s] w fun e w' => e = .returned (.int .i64 (-1)) ∧ Below w.heap.size w w' := by
  have HD := Lib.hid D
  have HS := Lib.hid hs
  clear D hs
  go_enter Tryz.func18, Tryz.ntmps18
  go_wp2_with fail
  refine (find_none HD.out s hG HS.out).mono ?_
  rintro e w1 ⟨rfl, hb⟩
  go_wp2
  go_ret
  exact ⟨rfl, hb⟩
theorem size_nobody (w : World) (p : Option Addr) (s : ByteArray) (hp : ∀ a, p = some a → ∃ b, a = ⟨b, 0, none⟩ ∧ w.cell? ⟨b, 0, none⟩ = some (.map none)) :
    Calls Tryz.prog 18 #[.pointer p, .string s] w fun e w' => e = .returned (.int .i64 (-1)) ∧ w = w' := by
  have HP := Lib.hid hp
  clear hp
  go_enter Tryz.func18, Tryz.ntmps18
  go_wp2_with fail
  refine (find_nobody _ p s HP.out).mono ?_
  rintro e w1 ⟨rfl, rfl⟩
  go_wp2
  go_ret
  exact ⟨rfl, rfl⟩
end Go.Proofs.YtnhemmjbodhjeaaGreat.Vd
