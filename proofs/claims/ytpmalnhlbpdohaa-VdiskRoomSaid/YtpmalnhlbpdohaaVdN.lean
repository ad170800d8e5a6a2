/- vdisk: what a law holds of a disk of its own; awake. -/
import Derived.Test.YtpmalnhlbpdohaaVdM
namespace Go.Proofs.Ytpmalnhlbpdohaa.Vd
open Go.RowKit Go.Maps Go.ChangeMaps Go.WideMaps Go.Sort
set_option linter.unusedVariables false

/-- A disk among the call's own blocks. -/
structure Own (B : Nat) (w0 w : World) (bd bm room : Nat) (fs : List Fil) : Prop where
  disk : DiskAt w bd bm room fs
  below : Below B w0 w
  ge : ∀ k, DiskB bd bm fs k → B ≤ k
theorem Own.evolves {B : Nat} {w0 w w' : World} {bd bm room : Nat} {fs fs' : List Fil} (h : Own B w0 w bd bm room fs) (hB : B ≤ w0.heap.size) (hE : Evolves w w' bd bm room fs fs') : Own B w0 w' bd bm room fs' := by
  obtain ⟨h1, h2⟩ := hE.below (Nat.le_trans hB h.below.size) h.ge
  exact ⟨hE.disk, h.below.trans h1, h2⟩
theorem Own.more {B : Nat} {w0 w w' : World} {bd bm room : Nat} {fs : List Fil} (h : Own B w0 w bd bm room fs) (hB : B ≤ w0.heap.size) (hE : Below w.heap.size w w') : Own B w0 w' bd bm room fs :=
  ⟨h.disk.below hE, h.below.trans (hE.mono (Nat.le_trans hB h.below.size)), h.ge⟩
theorem new_disk (w : World) (room : Nat) (h1 : room ≤ 16777216) : Calls Try.prog 17 #[.int .i64 room] w fun e w' => e = .returned (.tuple #[.pointer (some ⟨w.heap.size + 1, 0, none⟩), .int .i64 0]) ∧ Own w.heap.size w w' (w.heap.size + 1) w.heap.size room [] := by
  refine (new_yes w room (by omega) (by omega)).mono ?_
  rintro e w' ⟨rfl, rfl⟩
  refine ⟨rfl, ⟨?_, ?_, by simp, by simp, by simp, by simp [total], h1, by simp⟩, ?_, ?_⟩
  · have : (w.alloc (.map #[] 0)).heap.size = w.heap.size + 1 := by simp
    rw [← this]; exact heap_alloc_new _ _
  · exact (Mp.mapAt_made w).kept (heap_alloc_old _ _ (by simp))
  · exact ((Below.refl _ _).alloc (Nat.le_refl _) _).alloc (by simp) _
  · intro k hk
    simp [DiskB] at hk; omega
theorem good_str (l : List UInt8) (h1 : 1 ≤ l.length) (h2 : l.length ≤ 32) (h3 : ∀ x ∈ l, 33 ≤ x.toNat ∧ x.toNat ≤ 126) : Good (str l) := by
  have hs : (str l).size = l.length := by show l.toArray.size = l.length; simp
  refine ⟨by omega, by omega, fun i h => ?_⟩
  exact h3 _ (by
    have : (str l)[i]'h = l[i]'(by omega) := rfl
    rw [this]; exact List.getElem_mem _)
theorem good_a : Good { data := #[97] } := good_str [97] (by decide) (by decide) (by decide)
set_option maxRecDepth 100000 in
set_option maxHeartbeats 1000000 in
theorem awake (w : World) : Calls Try.prog 18 #[] w fun e w' => e = .returned (.bool true) ∧ Below w.heap.size w w' := by
  have GA := Lib.hid good_a
  go_enter Try.func18, Try.ntmps18
  go_wp2_with fail
  refine (new_disk w 9 (by omega)).mono ?_
  rintro e w1 ⟨rfl, O1⟩
  have H1 := Lib.hid O1
  clear O1
  go_wp2_with fail
  refine (append_new H1.out.disk _ _ GA.out (by simp) (by simp) (by decide)).mono ?_
  rintro e w2 ⟨rfl, bf, v2, E2⟩
  have H2 := Lib.hid (H1.out.evolves (Nat.le_refl _) E2)
  clear E2 H1
  go_wp2_with fail
  refine (sync_some (l1 := []) (l2 := []) _ H2.out.disk _ rfl).mono ?_
  rintro e w3 ⟨rfl, E3⟩
  have H3 := Lib.hid (H2.out.evolves (Nat.le_refl _) E3)
  clear E3 H2
  go_wp2_with fail
  refine (append_some (l1 := []) (l2 := []) _ H3.out.disk _ _ rfl (by simp [total, ByteArray.size])).mono ?_
  rintro e w4 ⟨rfl, v4, E4⟩
  have H4 := Lib.hid (H3.out.evolves (Nat.le_refl _) E4)
  clear E4 H3
  go_wp2_with fail
  refine (crash_yes H4.out.disk none 0 [] (by simp) (by simp)).mono ?_
  rintro e w5 ⟨rfl, fs5, S5, E5⟩
  have H5 := Lib.hid (H4.out.evolves (Nat.le_refl _) E5)
  clear E5 H4
  obtain ⟨hl5, hs5⟩ := S5
  obtain ⟨f5, rfl⟩ : ∃ f, fs5 = [f] := by
    match fs5, hl5 with
    | [f], _ => exact ⟨f, rfl⟩
  obtain ⟨⟨n5, -⟩, q5⟩ := hs5 0 _ f5 rfl rfl
  obtain ⟨q6, q7⟩ : f5.b = [120, 121] ∧ f5.sy = 2 := by
    simp only [rank, sorted] at q5
    simp [nm, keepOf] at q5
    exact q5
  clear q5
  have HN := Lib.hid n5
  have HQ6 := Lib.hid q6
  have HQ7 := Lib.hid q7
  clear n5 q6 q7 hs5 hl5
  go_wp2_with fail
  refine (read_some H5.out.disk f5 (by simp) _ HN.out 0 2 (by rw [HQ6.out]; decide)).mono ?_
  rintro e w6 ⟨rfl, E6⟩
  have H6 := Lib.hid (H5.out.more (Nat.le_refl _) E6)
  clear E6 H5
  rw [HQ6.out, show str (List.take 2 (List.drop 0 [120, 121])) = { data := #[120, 121] } from rfl]
  go_wp2_with fail
  refine (size_some H6.out.disk f5 (by simp) _ HN.out).mono ?_
  rintro e w7 ⟨rfl, E7⟩
  have H7 := Lib.hid (H6.out.more (Nat.le_refl _) E7)
  clear E7 H6
  rw [HQ6.out]
  go_wp2_with fail
  refine (append_noroom H7.out.disk f5 (by simp) _ _ HN.out (by decide) (by simp [total, HQ6.out, ByteArray.size])).mono ?_
  rintro e w8 ⟨rfl, E8⟩
  have H8 := Lib.hid (H7.out.more (Nat.le_refl _) E8)
  go_wp2
  go_ret
  exact ⟨rfl, H8.out.below⟩
end Go.Proofs.Ytpmalnhlbpdohaa.Vd
