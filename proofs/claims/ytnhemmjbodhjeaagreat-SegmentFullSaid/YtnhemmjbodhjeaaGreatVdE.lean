/- vdisk: Read. -/
import Derived.Test.YtnhemmjbodhjeaaGreatVdD
namespace Go.Proofs.YtnhemmjbodhjeaaGreat.Vd
open Go.RowKit Go.Maps Go.ChangeMaps Go.WideMaps
set_option linter.unusedVariables false

/-- bytes as a string -/
def str (l : List UInt8) : ByteArray := ⟨l.toArray⟩
theorem str_nums (l : List UInt8) : strOfNums (l.map (fun x => (x.toNat : Int))) = str l := by
  unfold strOfNums str
  congr 1
  congr 1
  induction l with
  | nil => rfl
  | cons a l ih => simp at ih ⊢; exact ih
theorem conv_empty (w : World) (a : Option Addr) (c : Nat) : (convert 74 9 (.slice a 0 c)).run Tryz.prog w = .ok (.string (str [])) w := by
  rcases a with _ | a
  · exact run_convert_bytes_nil (P := Tryz.prog) w _ _ Tryz.underlying74 Tryz.underlying5 0 c _ Tryz.underlying9
  · rw [run_convert_bytes_string w _ _ _ _ _ _ Tryz.underlying74 Tryz.underlying5 Tryz.underlying9, run_bytesToString w a 0 c [] (by simp [loadCells, loadCellsFrom])]; rfl
theorem conv_part {w : World} {f : Fil} (F : FilAt w f) (at_ n : Nat) (h : at_ + n ≤ f.b.length) {ap : Option Addr} {c : Nat} (hv : f.v = .slice ap f.b.length c) :
    (convert 74 9 (.slice (if c = at_ then ap else ap.map (·.add at_)) n (c - at_))).run Tryz.prog w = .ok (.string (str ((f.b.drop at_).take n))) w := by
  by_cases hn : n = 0
  · subst hn
    rw [conv_empty]; simp
  · obtain ⟨ap0, c0, hv0, hnil, hle, hsome⟩ := F.slice
    rw [hv] at hv0
    simp only [Value.slice.injEq, true_and] at hv0
    obtain ⟨rfl, rfl⟩ := hv0
    rcases ap with _ | a
    · rw [hnil rfl] at h; simp at h; omega
    · obtain ⟨h1, h2, h3⟩ := hsome a rfl
      obtain ⟨g, o, sp⟩ := a
      simp only at h1 h2; subst h1 h2
      have ha : (if c = at_ then some (⟨g, 0, none⟩ : Addr) else (some (⟨g, 0, none⟩ : Addr)).map (·.add at_)) = some ⟨g, 0 + at_, none⟩ := by
        rw [if_neg (by omega)]
        simp only [Option.map_some, Addr.add]
        split <;> simp_all
      rw [ha, run_convert_bytes_arg (P := Tryz.prog) w _ _ Tryz.underlying74 Tryz.underlying5 g (0 + at_) n (c - at_) (((f.b.drop at_).take n).map (fun x => (x.toNat : Int))) (by simp; omega) ?_ _ Tryz.underlying9, str_nums]
      intro i hi
      rw [show 0 + at_ + i = at_ + i from by omega, F.byte h3 (at_ + i) (by omega)]
      simp [bv, List.getD, List.getElem?_map, List.getElem?_take_of_lt hi, List.getElem?_drop, List.getElem?_eq_getElem (show at_ + i < f.b.length by omega)]
theorem le_total : ∀ {fs : List Fil} {f : Fil}, f ∈ fs → f.b.length ≤ total fs
  | g :: fs, f, h => by
    simp only [List.mem_cons] at h
    simp only [total, List.map_cons, List.sum_cons]
    rcases h with rfl | h
    · omega
    · have := le_total h; unfold total at this; omega
set_option maxRecDepth 100000 in
theorem read_some {w : World} {bd bm room : Nat} {fs : List Fil} (D : DiskAt w bd bm room fs) (f : Fil) (hf : f ∈ fs) (s : ByteArray) (hs : f.name = s) (at_ n : Nat) (h : at_ + n ≤ f.b.length) :
    Calls Tryz.prog 36 #[.pointer (some ⟨bd, 0, none⟩), .string s, .int .i64 at_, .int .i64 n] w fun e w' => e = .returned (.tuple #[.string (str ((f.b.drop at_).take n)), .int .i64 0]) ∧ Below w.heap.size w w' := by
  have hle := le_total hf
  have hroom := D.roomy
  have hsm := D.small
  have hbd : f.b.length ≤ 16777216 := by omega
  clear hle hroom hsm
  have HD := Lib.hid D
  have HS := Lib.hid hs
  clear D hs
  go_enter Tryz.func36, Tryz.ntmps36
  go_wp2_with fail
  refine (find_some HD.out f hf s HS.out).mono ?_
  rintro e w1 ⟨rfl, hb⟩
  have F := ((HD.out.below hb).files f hf)
  obtain ⟨ap, c, hv, -, hcap, -⟩ := F.slice
  have hc := cell_of F.cell 0
  simp only [List.getElem?_toArray, List.getElem?_cons_zero, hv] at hc
  have hcv := conv_part F at_ n h hv
  have d1 : decide ((at_ : Int) < 0) = false := by simp
  have d2 : decide ((n : Int) < 0) = false := by simp
  have d3 : decide (f.b.length < at_) = false := by simp; omega
  have d4 : decide ((f.b.length : Int) - at_ < n) = false := by simp; omega
  clear hv F
  go_wp2
  all_goals
    go_ret2
    exact ⟨rfl, hb⟩
end Go.Proofs.YtnhemmjbodhjeaaGreat.Vd
