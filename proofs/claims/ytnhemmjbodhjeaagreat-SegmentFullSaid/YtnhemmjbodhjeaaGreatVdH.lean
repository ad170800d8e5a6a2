/- vdisk: Rename. -/
import Derived.Test.YtnhemmjbodhjeaaGreatVdG
namespace Go.Proofs.YtnhemmjbodhjeaaGreat.Vd
open Go.RowKit Go.Maps Go.ChangeMaps Go.WideMaps
set_option linter.unusedVariables false

theorem Fil.blocks_name (f : Fil) (n : ByteArray) : ({ f with name := n } : Fil).blocks = f.blocks := rfl
/-- Only the map has turned: other files by other names. -/
theorem DiskAt.remap {w w' : World} {bd bm room : Nat} {fs fs' : List Fil} (D : DiskAt w bd bm room fs) (hT : Touch (· = bm) w w') (hM : Mp.MapAt Tryz.prog 9 w' bm (fs'.map Fil.kv))
    (hf : ∀ g' ∈ fs', ∃ g ∈ fs, g' = { g with name := g'.name }) (hG : ∀ g ∈ fs', Good g.name) (hN : (fs'.flatMap Fil.blocks).Nodup) (htot : total fs' ≤ room) (hfew : fs'.length ≤ 256) : Evolves w w' bd bm room fs fs' := by
  have hap := D.apart
  have hlt := D.lt
  have hsub : ∀ k, k ∈ fs'.flatMap Fil.blocks → k ∈ fs.flatMap Fil.blocks := by
    intro k hk
    obtain ⟨g', hg', hk⟩ := List.mem_flatMap.1 hk
    obtain ⟨g, hg, e⟩ := hf g' hg'
    rw [e, Fil.blocks_name] at hk
    exact List.mem_flatMap.2 ⟨g, hg, hk⟩
  have hne : ∀ k, k ∈ bd :: fs.flatMap Fil.blocks → k ≠ bm := by
    intro k hk e
    subst e
    simp only [List.nodup_cons, List.mem_cons, not_or] at hap
    rcases List.mem_cons.1 hk with rfl | hk
    · exact hap.1.1 rfl
    · exact hap.2.1 hk
  have hout : ∀ k, k ∈ bd :: fs.flatMap Fil.blocks → w'.heap[k]? = w.heap[k]? := fun k hk => hT.block k (hlt k (by simp only [DiskB]; rcases List.mem_cons.1 hk with rfl | hk; simp; exact List.mem_cons_of_mem _ (List.mem_cons_of_mem _ hk))) (hne k hk)
  refine ⟨⟨(hout bd (by simp)).trans D.disk, hM, ?_, ?_, hG, htot, D.small, hfew⟩, hT.mono (fun x hx => by subst hx; simp [DiskB]), fun k hk => .inl ?_⟩
  · intro g' hg'
    obtain ⟨g, hg, e⟩ := hf g' hg'
    rw [e]
    have F := (D.files g hg).kept (fun k hk => hout k (List.mem_cons_of_mem _ (List.mem_flatMap.2 ⟨g, hg, hk⟩)))
    exact ⟨F.cell, F.own, F.sy⟩
  · simp only [List.nodup_cons, List.mem_cons, not_or] at hap ⊢
    exact ⟨⟨hap.1.1, fun h => hap.1.2 (hsub _ h)⟩, fun h => hap.2.1 (hsub _ h), hN⟩
  · simp only [DiskB, List.mem_cons] at hk ⊢
    rcases hk with h | h | h
    · exact .inl h
    · exact .inr (.inl h)
    · exact .inr (.inr (hsub k h))

/-- Where a file of the new name stood, or behind all others. -/
def Renamed (l1 l2 : List Fil) (f : Fil) (to : ByteArray) (fs' : List Fil) : Prop :=
  ((∀ g ∈ l1 ++ l2, g.name ≠ to) ∧ fs' = (l1 ++ l2) ++ [{ f with name := to }]) ∨ ∃ m1 g m2, l1 ++ l2 = m1 ++ g :: m2 ∧ g.name = to ∧ fs' = m1 ++ { f with name := to } :: m2
end Go.Proofs.YtnhemmjbodhjeaaGreat.Vd
