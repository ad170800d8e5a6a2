/- vdisk: Rename. -/
import Derived.Test.YtcioejacijkbcaaGreatDoorVdG
namespace Go.Proofs.YtcioejacijkbcaaGreatDoor.Vd
open Go.RowKit Go.Maps Go.ChangeMaps Go.WideMaps
set_option linter.unusedVariables false

theorem Fil.blocks_name (f : Fil) (n : ByteArray) : ({ f with name := n } : Fil).blocks = f.blocks := rfl
/-- Only the map has turned: other files by other names. -/
theorem DiskAt.remap {w w' : World} {bd bm room : Nat} {fs fs' : List Fil} (D : DiskAt w bd bm room fs) (hT : Touch (· = bm) w w') (hM : Mp.MapAt Tryz.prog 9 w' bm (fs'.map Fil.kv))
    (hf : ∀ g' ∈ fs', ∃ g ∈ fs, g' = { g with name := g'.name }) (hG : ∀ g ∈ fs', Good g.name) (hN : (fs'.flatMap Fil.blocks).Nodup) (htot : total fs' ≤ room) (hfew : fs'.length ≤ 256) : Evolves w w' bd bm room fs fs' := by
  have hap := D.apart
  have hlt := D.lt
  have hsub : ∀ k, k ∈ fs'.flatMap Fil.blocks → k ∈ fs.flatMap Fil.blocks := by
    intro k hk
    obtain ⟨g', hg', hk⟩ := List.mem_flatMap.1 hk
    obtain ⟨g, hg, e⟩ := hf g' hg'
    rw [e, Fil.blocks_name] at hk
    exact List.mem_flatMap.2 ⟨g, hg, hk⟩
  have hne : ∀ k, k ∈ bd :: fs.flatMap Fil.blocks → k ≠ bm := by
    intro k hk e
    subst e
    simp only [List.nodup_cons, List.mem_cons, not_or] at hap
    rcases List.mem_cons.1 hk with rfl | hk
    · exact hap.1.1 rfl
    · exact hap.2.1 hk
  have hout : ∀ k, k ∈ bd :: fs.flatMap Fil.blocks → w'.heap[k]? = w.heap[k]? := fun k hk => hT.block k (hlt k (by simp only [DiskB]; rcases List.mem_cons.1 hk with rfl | hk; simp; exact List.mem_cons_of_mem _ (List.mem_cons_of_mem _ hk))) (hne k hk)
  refine ⟨⟨(hout bd (by simp)).trans D.disk, hM, ?_, ?_, hG, htot, D.small, hfew⟩, hT.mono (fun x hx => by subst hx; simp [DiskB]), fun k hk => .inl ?_⟩
  · intro g' hg'
    obtain ⟨g, hg, e⟩ := hf g' hg'
    rw [e]
    have F := (D.files g hg).kept (fun k hk => hout k (List.mem_cons_of_mem _ (List.mem_flatMap.2 ⟨g, hg, hk⟩)))
    exact ⟨F.cell, F.own, F.sy⟩
  · simp only [List.nodup_cons, List.mem_cons, not_or] at hap ⊢
    exact ⟨⟨hap.1.1, fun h => hap.1.2 (hsub _ h)⟩, fun h => hap.2.1 (hsub _ h), hN⟩
  · simp only [DiskB, List.mem_cons] at hk ⊢
    rcases hk with h | h | h
    · exact .inl h
    · exact .inr (.inl h)
    · exact .inr (.inr (hsub k h))

/-- Where a file of the new name stood, or behind all others. -/
def Renamed (l1 l2 : List Fil) (f : Fil) (to : ByteArray) (fs' : List Fil) : Prop :=
  ((∀ g ∈ l1 ++ l2, g.name ≠ to) ∧ fs' = (l1 ++ l2) ++ [{ f with name := to }]) ∨ ∃ m1 g m2, l1 ++ l2 = m1 ++ g :: m2 ∧ g.name = to ∧ fs' = m1 ++ { f with name := to } :: m2
set_option maxRecDepth 100000 in
theorem rename_some {w : World} {bd bm room : Nat} {l1 l2 : List Fil} (f : Fil) (D : DiskAt w bd bm room (l1 ++ f :: l2)) (s to : ByteArray) (hs : f.name = s) (hto : Good to) :
    Calls Tryz.prog 64 #[.pointer (some ⟨bd, 0, none⟩), .string s, .string to] w fun e w' => e = .returned (.int .i64 0) ∧ ∃ fs', Renamed l1 l2 f to fs' ∧ Evolves w w' bd bm room (l1 ++ f :: l2) fs' := by
  have HD := Lib.hid D
  have HS := Lib.hid hs
  clear D hs
  go_enter Tryz.func64, Tryz.ntmps64
  go_wp2_with fail
  refine (find_some HD.out f (by simp) s HS.out).mono ?_
  rintro e w0 ⟨rfl, hb0⟩
  go_wp2_with fail
  refine (named_yes _ to hto).mono ?_
  rintro e w1 ⟨rfl, hb1⟩
  have hb : Below w.heap.size w w1 := hb0.trans (hb1.mono hb0.size)
  clear hb0 hb1
  have D1 := HD.out.below hb
  have hc := cell_of D1.disk 0
  simp only [List.getElem?_toArray, List.getElem?_cons_zero] at hc
  obtain ⟨o, m', hrun, hM, hcase⟩ := Mp.delete (ty := 0) D1.map law Tryz.underlying92 (D1.good f (by simp)).key 9
  have hM1 : Mp.MapAt Tryz.prog 9 (setBlock w1 bm o) bm ((l1 ++ l2).map Fil.kv) := by
    rcases hcase with ⟨h1, _⟩ | ⟨m1, v0, m2, h1, rfl⟩
    · exact absurd rfl (h1 (Fil.kv f) (List.mem_map_of_mem (by simp)))
    · obtain ⟨rfl, rfl, _⟩ := kv_split D1.map.nodup h1
      simpa using hM
  obtain ⟨w2, hw2⟩ : ∃ w2, w2 = setBlock w1 bm o := ⟨_, rfl⟩
  rw [← hw2] at hM1 hrun
  obtain ⟨o2, m2, hrun2, hM2, hcase2⟩ := Mp.store hM1 law Tryz.underlying92 hto.key (.pointer (some ⟨f.bf, 0, none⟩))
  have hT : Touch (· = bm) w1 (setBlock w2 bm o2) := by rw [hw2]; exact (touch_setBlock _ _ _).trans (touch_setBlock _ _ _) (fun x h => .inl h)
  have hap := D1.apart
  have hrm := D1.roomy
  rw [total_split] at hrm
  have hfw := D1.few
  have hE : ∃ fs', Renamed l1 l2 f to fs' ∧ Evolves w1 (setBlock w2 bm o2) bd bm room (l1 ++ f :: l2) fs' := by
    rcases hcase2 with ⟨h1, rfl⟩ | ⟨m1, v0, m3, h1, rfl⟩
    · refine ⟨_, .inl ⟨fun g hg e => h1 (Fil.kv g) (List.mem_map_of_mem hg) (by rw [← e]; rfl), rfl⟩, D1.remap hT (by simpa [Fil.kv] using hM2) ?_ ?_ ?_ (by simp [total] at hrm ⊢; omega) (by simp at hfw ⊢; omega)⟩
      · intro g' hg'
        simp only [List.mem_append, List.mem_singleton] at hg'
        rcases hg' with (h | h) | rfl
        · exact ⟨g', by simp [h], rfl⟩
        · exact ⟨g', by simp [h], rfl⟩
        · exact ⟨f, by simp, rfl⟩
      · intro g' hg'
        simp only [List.mem_append, List.mem_singleton] at hg'
        rcases hg' with (h | h) | rfl
        · exact D1.good g' (by simp [h])
        · exact D1.good g' (by simp [h])
        · exact hto
      · have hp : (((l1 ++ l2) ++ [{ f with name := to }]).flatMap Fil.blocks).Perm ((l1 ++ f :: l2).flatMap Fil.blocks) := by
          simp only [List.flatMap_append, List.flatMap_cons, List.flatMap_nil, List.append_nil, Fil.blocks_name, List.append_assoc]
          exact List.Perm.append_left _ List.perm_append_comm
        exact hp.nodup_iff.2 (List.nodup_cons.1 (List.nodup_cons.1 hap).2).2
    · have hex : ∃ n1 g n2, l1 ++ l2 = n1 ++ g :: n2 ∧ g.name = to ∧ m1 = n1.map Fil.kv ∧ m3 = n2.map Fil.kv := by
        obtain ⟨n1, r, e1, e2, e3⟩ := List.map_eq_append_iff.1 h1
        obtain ⟨g, n2, e4, e5, e6⟩ := List.map_eq_cons_iff.1 e3
        exact ⟨n1, g, n2, by rw [e1, e4], by simpa [Fil.kv] using congrArg (fun p : Value × Value => p.1) e5, e2.symm, e6.symm⟩
      obtain ⟨n1, g, n2, e1, e2, rfl, rfl⟩ := hex
      have hlen : l1.length + l2.length = n1.length + 1 + n2.length := by have := congrArg List.length e1; simp at this; omega
      have htt : total l1 + total l2 = total n1 + g.b.length + total n2 := by have := congrArg total e1; rw [total_split] at this; simp [total] at this ⊢; omega
      refine ⟨_, .inr ⟨n1, g, n2, e1, e2, rfl⟩, D1.remap hT (by simpa [Fil.kv] using hM2) ?_ ?_ ?_ (by simp only [total_split]; omega) (by simp at hfw ⊢; omega)⟩
      · intro g' hg'
        have hin : ∀ x, x ∈ n1 ∨ x ∈ n2 → x ∈ l1 ++ f :: l2 := by
          intro x hx
          have : x ∈ l1 ++ l2 := by rw [e1]; rcases hx with h | h <;> simp [h]
          simp only [List.mem_append, List.mem_cons] at this ⊢
          rcases this with h | h
          · exact .inl h
          · exact .inr (.inr h)
        simp only [List.mem_append, List.mem_cons] at hg'
        rcases hg' with h | rfl | h
        · exact ⟨g', hin _ (.inl h), rfl⟩
        · exact ⟨f, by simp, rfl⟩
        · exact ⟨g', hin _ (.inr h), rfl⟩
      · intro g' hg'
        have hin : ∀ x, x ∈ n1 ∨ x ∈ n2 → x ∈ l1 ++ f :: l2 := by
          intro x hx
          have : x ∈ l1 ++ l2 := by rw [e1]; rcases hx with h | h <;> simp [h]
          simp only [List.mem_append, List.mem_cons] at this ⊢
          rcases this with h | h
          · exact .inl h
          · exact .inr (.inr h)
        simp only [List.mem_append, List.mem_cons] at hg'
        rcases hg' with h | rfl | h
        · exact D1.good g' (hin _ (.inl h))
        · exact hto
        · exact D1.good g' (hin _ (.inr h))
      · have hnd : ((l1 ++ f :: l2).flatMap Fil.blocks).Nodup := (List.nodup_cons.1 (List.nodup_cons.1 hap).2).2
        have hp : ((l1 ++ f :: l2).flatMap Fil.blocks).Perm (f.blocks ++ (l1 ++ l2).flatMap Fil.blocks) := by
          simp only [List.flatMap_append, List.flatMap_cons]
          rw [← List.append_assoc, ← List.append_assoc]
          exact List.Perm.append_right _ List.perm_append_comm
        rw [e1] at hp
        have h2 := hp.nodup_iff.1 hnd
        have hp2 : ((n1 ++ { f with name := to } :: n2).flatMap Fil.blocks).Perm (f.blocks ++ (n1 ++ n2).flatMap Fil.blocks) := by
          simp only [List.flatMap_append, List.flatMap_cons, Fil.blocks_name]
          rw [← List.append_assoc, ← List.append_assoc]
          exact List.Perm.append_right _ List.perm_append_comm
        refine hp2.nodup_iff.2 (h2.sublist ?_)
        simp only [List.flatMap_append, List.flatMap_cons]
        exact List.Sublist.append_left (List.Sublist.append_left (List.sublist_append_right _ _) _) _
  have hc2 : w2.cell? ⟨bd, 0, none⟩ = some (.map (some bm)) := by
    rw [hw2]
    have : (setBlock w1 bm o).heap[bd]? = w1.heap[bd]? := Mp.setBlock_other (by intro e; subst e; simp at hap) _
    exact (World.cell?_of_block (w := w1) (a := ⟨bd, 0, none⟩) this).trans hc
  rw [HS.out] at hrun
  have hdel : ∀ ty, (Builtin.delete_ #[92, 9] ty #[.map (some bm), .string s]).run Tryz.prog w1 = _ := fun _ => hrun
  have HE := Lib.hid hE
  have HT := Lib.hid hto
  clear D1 hM hcase hrun hE hM1 hM2 hcase2 hT hap hw2 hto
  go_wp2
  go_ret
  obtain ⟨fs', hR, hE⟩ := HE.out
  exact ⟨rfl, fs', hR, (Evolves.of_below HD.out hb).trans hE⟩
end Go.Proofs.YtcioejacijkbcaaGreatDoor.Vd
