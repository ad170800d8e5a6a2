/- vdisk: what a law holds of a disk of its own. -/
import Derived.Test.YtcioejacijkbcaaGreatDoorVdK
namespace Go.Proofs.YtcioejacijkbcaaGreatDoor.Vd
open Go.RowKit Go.Maps Go.ChangeMaps Go.WideMaps
set_option linter.unusedVariables false

/-- A disk among the call's own blocks. -/
structure Own (B : Nat) (w0 w : World) (bd bm room : Nat) (fs : List Fil) : Prop where
  disk : DiskAt w bd bm room fs
  below : Below B w0 w
  ge : ∀ k, DiskB bd bm fs k → B ≤ k
theorem Own.evolves {B : Nat} {w0 w w' : World} {bd bm room : Nat} {fs fs' : List Fil} (h : Own B w0 w bd bm room fs) (hB : B ≤ w0.heap.size) (hE : Evolves w w' bd bm room fs fs') : Own B w0 w' bd bm room fs' := by
  obtain ⟨h1, h2⟩ := hE.below (Nat.le_trans hB h.below.size) h.ge
  exact ⟨hE.disk, h.below.trans h1, h2⟩
theorem Own.more {B : Nat} {w0 w w' : World} {bd bm room : Nat} {fs : List Fil} (h : Own B w0 w bd bm room fs) (hB : B ≤ w0.heap.size) (hE : Below w.heap.size w w') : Own B w0 w' bd bm room fs :=
  ⟨h.disk.below hE, h.below.trans (hE.mono (Nat.le_trans hB h.below.size)), h.ge⟩
theorem new_disk (w : World) (room : Nat) (h1 : room ≤ 16777216) : Calls Tryz.prog 18 #[.int .i64 room] w fun e w' => e = .returned (.tuple #[.pointer (some ⟨w.heap.size + 1, 0, none⟩), .int .i64 0]) ∧ Own w.heap.size w w' (w.heap.size + 1) w.heap.size room [] := by
  refine (new_yes w room (by omega) (by omega)).mono ?_
  rintro e w' ⟨rfl, rfl⟩
  refine ⟨rfl, ⟨?_, ?_, by simp, by simp, by simp, by simp [total], h1, by simp⟩, ?_, ?_⟩
  · have : (w.alloc (.map #[] 0)).heap.size = w.heap.size + 1 := by simp
    rw [← this]; exact heap_alloc_new _ _
  · exact (Mp.mapAt_made w).kept (heap_alloc_old _ _ (by simp))
  · exact ((Below.refl _ _).alloc (Nat.le_refl _) _).alloc (by simp) _
  · intro k hk
    simp [DiskB] at hk; omega
theorem good_str (l : List UInt8) (h1 : 1 ≤ l.length) (h2 : l.length ≤ 32) (h3 : ∀ x ∈ l, 33 ≤ x.toNat ∧ x.toNat ≤ 126) : Good (str l) := by
  have hs : (str l).size = l.length := by show l.toArray.size = l.length; simp
  refine ⟨by omega, by omega, fun i h => ?_⟩
  exact h3 _ (by
    have : (str l)[i]'h = l[i]'(by omega) := rfl
    rw [this]; exact List.getElem_mem _)
end Go.Proofs.YtcioejacijkbcaaGreatDoor.Vd
