/- vdisk: what only reads: Size, Synced, Read. -/
import Derived.Test.YtcioejacijkbcaaGreatDoorVdC
import Derived.Laws.BytesArg
namespace Go.Proofs.YtcioejacijkbcaaGreatDoor.Vd
open Go.RowKit Go.Maps Go.ChangeMaps Go.WideMaps
set_option linter.unusedVariables false
theorem FilAt.slice {w : World} {f : Fil} (h : FilAt w f) : ∃ ap c, f.v = .slice ap f.b.length c ∧ (ap = none → f.b = []) ∧ f.b.length ≤ c ∧ ∀ a, ap = some a → a.off = 0 ∧ a.spot = none ∧ f.v.ownBlock = some a.block := by
  rcases h.own.2 with ⟨h1, h2⟩ | ⟨g, cap, cur, h1, _, _, h4, _⟩
  · exact ⟨none, 0, by rw [h1, h2], fun _ => List.length_eq_zero_iff.1 h2, by omega, by simp⟩
  · exact ⟨_, _, h1, by simp, h4, fun a ha => by cases ha; exact ⟨rfl, rfl, by rw [h1]; rfl⟩⟩
theorem FilAt.byte {w : World} {f : Fil} (h : FilAt w f) {g : Nat} (hg : f.v.ownBlock = some g) (i : Nat) (hi : i < f.b.length) : w.cell? ⟨g, i, none⟩ = some (bv (f.b[i]'hi)) := by
  rcases h.own.2 with ⟨h1, h2⟩ | ⟨g', cap, cur, h1, _, h3, h4, _, h6, h7⟩
  · omega
  · rw [h1] at hg; simp [Value.ownBlock] at hg; subst hg
    rw [cell_of h3]
    have : (cur.toList.take (f.b.length * 1))[i]? = (f.b.map bv)[i]? := by rw [h7]
    rw [List.getElem?_take_of_lt (by omega), List.getElem?_map, List.getElem?_eq_getElem hi] at this
    simpa using this
theorem size_some {w : World} {bd bm room : Nat} {fs : List Fil} (D : DiskAt w bd bm room fs) (f : Fil) (hf : f ∈ fs) (s : ByteArray) (hs : f.name = s) :
    Calls Tryz.prog 29 #[.pointer (some ⟨bd, 0, none⟩), .string s] w fun e w' => e = .returned (.int .i64 f.b.length) ∧ Below w.heap.size w w' := by
  have HD := Lib.hid D
  have HS := Lib.hid hs
  clear D hs
  go_enter Tryz.func29, Tryz.ntmps29
  go_wp2_with fail
  refine (find_some HD.out f hf s HS.out).mono ?_
  rintro e w1 ⟨rfl, hb⟩
  obtain ⟨ap, c, hv, -⟩ := ((HD.out.below hb).files f hf).slice
  have hc := cell_of ((HD.out.below hb).files f hf).cell 0
  simp only [List.getElem?_toArray, List.getElem?_cons_zero, hv] at hc
  clear hv
  go_wp2
  go_ret
  exact ⟨rfl, hb⟩
theorem size_none {w : World} {bd bm room : Nat} {fs : List Fil} (D : DiskAt w bd bm room fs) (s : ByteArray) (hG : Good s) (hs : ∀ f ∈ fs, f.name ≠ s) :
    Calls Tryz.prog 29 #[.pointer (some ⟨bd, 0, none⟩), .string s] w fun e w' => e = .returned (.int .i64 (-1)) ∧ Below w.heap.size w w' := by
  have HD := Lib.hid D
  have HS := Lib.hid hs
  clear D hs
  go_enter Tryz.func29, Tryz.ntmps29
  go_wp2_with fail
  refine (find_none HD.out s hG HS.out).mono ?_
  rintro e w1 ⟨rfl, hb⟩
  go_wp2
  go_ret
  exact ⟨rfl, hb⟩
theorem size_nobody (w : World) (p : Option Addr) (s : ByteArray) (hp : ∀ a, p = some a → ∃ b, a = ⟨b, 0, none⟩ ∧ w.cell? ⟨b, 0, none⟩ = some (.map none)) :
    Calls Tryz.prog 29 #[.pointer p, .string s] w fun e w' => e = .returned (.int .i64 (-1)) ∧ w = w' := by
  have HP := Lib.hid hp
  clear hp
  go_enter Tryz.func29, Tryz.ntmps29
  go_wp2_with fail
  refine (find_nobody _ p s HP.out).mono ?_
  rintro e w1 ⟨rfl, rfl⟩
  go_wp2
  go_ret
  exact ⟨rfl, rfl⟩
end Go.Proofs.YtcioejacijkbcaaGreatDoor.Vd
/- vdisk: Read. -/
namespace Go.Proofs.YtcioejacijkbcaaGreatDoor.Vd
open Go.RowKit Go.Maps Go.ChangeMaps Go.WideMaps
set_option linter.unusedVariables false
/-- bytes as a string -/
def str (l : List UInt8) : ByteArray := ⟨l.toArray⟩
theorem str_nums (l : List UInt8) : strOfNums (l.map (fun x => (x.toNat : Int))) = str l := by
  unfold strOfNums str
  congr 1
  congr 1
  induction l with
  | nil => rfl
  | cons a l ih => simp at ih ⊢; exact ih
theorem conv_empty (w : World) (a : Option Addr) (c : Nat) : (convert 60 9 (.slice a 0 c)).run Tryz.prog w = .ok (.string (str [])) w := by
  rcases a with _ | a
  · exact run_convert_bytes_nil (P := Tryz.prog) w _ _ Tryz.underlying60 Tryz.underlying5 0 c _ Tryz.underlying9
  · rw [run_convert_bytes_string w _ _ _ _ _ _ Tryz.underlying60 Tryz.underlying5 Tryz.underlying9, run_bytesToString w a 0 c [] (by simp [loadCells, loadCellsFrom])]; rfl
theorem conv_part {w : World} {f : Fil} (F : FilAt w f) (at_ n : Nat) (h : at_ + n ≤ f.b.length) {ap : Option Addr} {c : Nat} (hv : f.v = .slice ap f.b.length c) :
    (convert 60 9 (.slice (if c = at_ then ap else ap.map (·.add at_)) n (c - at_))).run Tryz.prog w = .ok (.string (str ((f.b.drop at_).take n))) w := by
  by_cases hn : n = 0
  · subst hn
    rw [conv_empty]; simp
  · obtain ⟨ap0, c0, hv0, hnil, hle, hsome⟩ := F.slice
    rw [hv] at hv0
    simp only [Value.slice.injEq, true_and] at hv0
    obtain ⟨rfl, rfl⟩ := hv0
    rcases ap with _ | a
    · rw [hnil rfl] at h; simp at h; omega
    · obtain ⟨h1, h2, h3⟩ := hsome a rfl
      obtain ⟨g, o, sp⟩ := a
      simp only at h1 h2; subst h1 h2
      have ha : (if c = at_ then some (⟨g, 0, none⟩ : Addr) else (some (⟨g, 0, none⟩ : Addr)).map (·.add at_)) = some ⟨g, 0 + at_, none⟩ := by
        rw [if_neg (by omega)]
        simp only [Option.map_some, Addr.add]
        split <;> simp_all
      rw [ha, run_convert_bytes_arg (P := Tryz.prog) w _ _ Tryz.underlying60 Tryz.underlying5 g (0 + at_) n (c - at_) (((f.b.drop at_).take n).map (fun x => (x.toNat : Int))) (by simp; omega) ?_ _ Tryz.underlying9, str_nums]
      intro i hi
      rw [show 0 + at_ + i = at_ + i from by omega, F.byte h3 (at_ + i) (by omega)]
      simp [bv, List.getD, List.getElem?_map, List.getElem?_take_of_lt hi, List.getElem?_drop, List.getElem?_eq_getElem (show at_ + i < f.b.length by omega)]
theorem le_total : ∀ {fs : List Fil} {f : Fil}, f ∈ fs → f.b.length ≤ total fs
  | g :: fs, f, h => by
    simp only [List.mem_cons] at h
    simp only [total, List.map_cons, List.sum_cons]
    rcases h with rfl | h
    · omega
    · have := le_total h; unfold total at this; omega
set_option maxRecDepth 100000 in
theorem read_some {w : World} {bd bm room : Nat} {fs : List Fil} (D : DiskAt w bd bm room fs) (f : Fil) (hf : f ∈ fs) (s : ByteArray) (hs : f.name = s) (at_ n : Nat) (h : at_ + n ≤ f.b.length) :
    Calls Tryz.prog 28 #[.pointer (some ⟨bd, 0, none⟩), .string s, .int .i64 at_, .int .i64 n] w fun e w' => e = .returned (.tuple #[.string (str ((f.b.drop at_).take n)), .int .i64 0]) ∧ Below w.heap.size w w' := by
  have hle := le_total hf
  have hroom := D.roomy
  have hsm := D.small
  have hbd : f.b.length ≤ 16777216 := by omega
  clear hle hroom hsm
  have HD := Lib.hid D
  have HS := Lib.hid hs
  clear D hs
  go_enter Tryz.func28, Tryz.ntmps28
  go_wp2_with fail
  refine (find_some HD.out f hf s HS.out).mono ?_
  rintro e w1 ⟨rfl, hb⟩
  have F := ((HD.out.below hb).files f hf)
  obtain ⟨ap, c, hv, -, hcap, -⟩ := F.slice
  have hc := cell_of F.cell 0
  simp only [List.getElem?_toArray, List.getElem?_cons_zero, hv] at hc
  have hcv := conv_part F at_ n h hv
  have d1 : decide ((at_ : Int) < 0) = false := by simp
  have d2 : decide ((n : Int) < 0) = false := by simp
  have d3 : decide (f.b.length < at_) = false := by simp; omega
  have d4 : decide ((f.b.length : Int) - at_ < n) = false := by simp; omega
  clear hv F
  go_wp2
  all_goals
    go_ret2
    exact ⟨rfl, hb⟩
end Go.Proofs.YtcioejacijkbcaaGreatDoor.Vd
