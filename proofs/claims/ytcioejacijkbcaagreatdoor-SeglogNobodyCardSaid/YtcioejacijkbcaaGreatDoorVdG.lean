/- vdisk: Remove; the map's own block behind a store or a deletion. -/
import Derived.Test.YtcioejacijkbcaaGreatDoorVdF
namespace Go.Proofs.YtcioejacijkbcaaGreatDoor.Vd
open Go.RowKit Go.Maps Go.ChangeMaps Go.WideMaps
set_option linter.unusedVariables false

theorem kv_split {l1 l2 : List Fil} {f : Fil} {m1 m2 : List (Value × Value)} {v0 : Value} (hn : ((l1 ++ f :: l2).map Fil.kv |>.map (·.1)).Nodup) (h : (l1 ++ f :: l2).map Fil.kv = m1 ++ (.string f.name, v0) :: m2) : m1 = l1.map Fil.kv ∧ m2 = l2.map Fil.kv ∧ v0 = .pointer (some ⟨f.bf, 0, none⟩) := by
  have hk : (l1 ++ f :: l2).map Fil.kv = l1.map Fil.kv ++ Fil.kv f :: l2.map Fil.kv := by simp
  have e : m1.length = l1.length := by
    have h1 : ((l1 ++ f :: l2).map Fil.kv)[m1.length]? = some (.string f.name, v0) := by rw [h]; simp
    have h2 : ((l1 ++ f :: l2).map Fil.kv)[l1.length]? = some (Fil.kv f) := by rw [hk]; simp
    obtain ⟨i1, e1⟩ := List.getElem?_eq_some_iff.1 h1
    obtain ⟨i2, e2⟩ := List.getElem?_eq_some_iff.1 h2
    rw [List.nodup_iff_pairwise_ne, List.pairwise_map] at hn
    have hp := List.pairwise_iff_getElem.1 hn
    rcases Nat.lt_trichotomy m1.length l1.length with c | c | c
    · exact absurd (by rw [e1, e2]; rfl) (hp _ _ i1 i2 c)
    · exact c
    · exact absurd (by rw [e1, e2]; rfl) (hp _ _ i2 i1 c)
  rw [hk] at h
  have h3 := List.append_inj h (by simp [e])
  obtain ⟨h4, h5⟩ := h3
  simp only [List.cons.injEq] at h5
  exact ⟨h4.symm, h5.2.symm, (Prod.mk.inj h5.1).2.symm⟩
theorem DiskAt.remove {w w' : World} {bd bm room : Nat} {l1 l2 : List Fil} {f : Fil} (D : DiskAt w bd bm room (l1 ++ f :: l2)) (hT : Touch (· = bm) w w') (hM : Mp.MapAt Tryz.prog 9 w' bm ((l1 ++ l2).map Fil.kv)) :
    Evolves w w' bd bm room (l1 ++ f :: l2) (l1 ++ l2) := by
  have hap := D.apart
  have hlt := D.lt
  have hsub : (bd :: bm :: (l1 ++ l2).flatMap Fil.blocks).Sublist (bd :: bm :: (l1 ++ f :: l2).flatMap Fil.blocks) := by
    simp only [List.flatMap_append, List.flatMap_cons]
    exact ((List.Sublist.append_left (List.sublist_append_right _ _) _).cons_cons _).cons_cons _
  have hne : ∀ k, k ∈ bd :: (l1 ++ f :: l2).flatMap Fil.blocks → k ≠ bm := by
    intro k hk e
    subst e
    simp only [List.nodup_cons, List.mem_cons, not_or] at hap
    rcases List.mem_cons.1 hk with rfl | hk
    · exact hap.1.1 rfl
    · exact hap.2.1 hk
  have hout : ∀ k, k ∈ bd :: (l1 ++ f :: l2).flatMap Fil.blocks → w'.heap[k]? = w.heap[k]? := fun k hk => hT.block k (hlt k (by simp only [DiskB]; rcases List.mem_cons.1 hk with rfl | hk; simp; exact List.mem_cons_of_mem _ (List.mem_cons_of_mem _ hk))) (hne k hk)
  have hroomy := D.roomy
  rw [total_split] at hroomy
  refine ⟨⟨(hout bd (by simp)).trans D.disk, hM, ?_, hap.sublist hsub, ?_, ?_, D.small, ?_⟩, hT.mono (fun x hx => by subst hx; simp [DiskB]), fun k hk => .inl (hsub.subset hk)⟩
  · intro g hg
    have hg' : g ∈ l1 ++ f :: l2 := by simp only [List.mem_append, List.mem_cons] at hg ⊢; rcases hg with h | h; exact .inl h; exact .inr (.inr h)
    exact (D.files g hg').kept (fun k hk => hout k (List.mem_cons_of_mem _ (List.mem_flatMap.2 ⟨g, hg', hk⟩)))
  · intro g hg
    exact D.good g (by simp only [List.mem_append, List.mem_cons] at hg ⊢; rcases hg with h | h; exact .inl h; exact .inr (.inr h))
  · simp [total] at hroomy ⊢; omega
  · have := D.few; simp at this ⊢; omega
theorem touch_setBlock (w : World) (b : Nat) (o : Obj) : Touch (· = b) w (setBlock w b o) := ⟨rfl, rfl, rfl, by simp [setBlock], fun k _ hn => Mp.setBlock_other hn o⟩

theorem remove_some {w : World} {bd bm room : Nat} {l1 l2 : List Fil} (f : Fil) (D : DiskAt w bd bm room (l1 ++ f :: l2)) (s : ByteArray) (hs : f.name = s) :
    Calls Tryz.prog 40 #[.pointer (some ⟨bd, 0, none⟩), .string s] w fun e w' => e = .returned (.int .i64 0) ∧ Evolves w w' bd bm room (l1 ++ f :: l2) (l1 ++ l2) := by
  have HD := Lib.hid D
  have HS := Lib.hid hs
  clear D hs
  go_enter Tryz.func40, Tryz.ntmps40
  go_wp2_with fail
  refine (find_some HD.out f (by simp) s HS.out).mono ?_
  rintro e w1 ⟨rfl, hb⟩
  have D1 := HD.out.below hb
  have hc := cell_of D1.disk 0
  simp only [List.getElem?_toArray, List.getElem?_cons_zero] at hc
  obtain ⟨o, m', hrun, hM, hcase⟩ := Mp.delete (ty := 0) D1.map law Tryz.underlying92 (D1.good f (by simp)).key 9
  have hE : Evolves w1 (setBlock w1 bm o) bd bm room (l1 ++ f :: l2) (l1 ++ l2) := by
    refine D1.remove (touch_setBlock _ _ _) ?_
    rcases hcase with ⟨h1, _⟩ | ⟨m1, v0, m2, h1, rfl⟩
    · exact absurd rfl (h1 (Fil.kv f) (List.mem_map_of_mem (by simp)))
    · obtain ⟨rfl, rfl, _⟩ := kv_split D1.map.nodup h1
      simpa using hM
  rw [HS.out] at hrun
  have hdel : ∀ ty, (Builtin.delete_ #[92, 9] ty #[.map (some bm), .string s]).run Tryz.prog w1 = _ := fun _ => hrun
  have HE := Lib.hid hE
  clear D1 hM hcase hrun hE
  go_wp2
  go_ret
  exact ⟨rfl, (Evolves.of_below HD.out hb).trans HE.out⟩
theorem remove_none {w : World} {bd bm room : Nat} {fs : List Fil} (D : DiskAt w bd bm room fs) (s : ByteArray) (hG : Good s) (hs : ∀ f ∈ fs, f.name ≠ s) :
    Calls Tryz.prog 40 #[.pointer (some ⟨bd, 0, none⟩), .string s] w fun e w' => e = .returned (.int .i64 3) ∧ Below w.heap.size w w' := by
  have HD := Lib.hid D
  have HS := Lib.hid hs
  clear D hs
  go_enter Tryz.func40, Tryz.ntmps40
  go_wp2_with fail
  refine (find_none HD.out s hG HS.out).mono ?_
  rintro e w1 ⟨rfl, hb⟩
  go_wp2
  go_ret
  exact ⟨rfl, hb⟩
end Go.Proofs.YtcioejacijkbcaaGreatDoor.Vd
