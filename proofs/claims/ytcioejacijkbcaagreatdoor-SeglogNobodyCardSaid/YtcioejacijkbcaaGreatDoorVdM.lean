/- vdisk: Crash. -/
import Derived.Test.YtcioejacijkbcaaGreatDoorVdL
import Derived.RegionTactic
import Derived.Lib.MinMax
import Derived.ChangeAlike
import Derived.BigRegion
namespace Go.Proofs.YtcioejacijkbcaaGreatDoor.Vd
open Go.RowKit Go.Maps Go.ChangeMaps Go.WideMaps Go.Sort
set_option linter.unusedVariables false

/-- what is kept of a file's tail, if so much may be: keep's number for the file's place among the names -/
def keepOf (ks : List Int) (i : Nat) (len sy : Nat) : Nat := if i < ks.length then (min (max (ks.getD i 0) 0) ((len : Int) - sy)).toNat else 0
theorem keepOf_le (ks : List Int) (i len sy : Nat) (h : sy ≤ len) : sy + keepOf ks i len sy ≤ len := by
  unfold keepOf; split <;> omega
def rank (fs : List Fil) (f : Fil) : Nat := (sorted fs).idxOf (nm f)
/-- a file behind k steps of a crash -/
def Step (ks : List Int) (fs : List Fil) (k : Nat) (f f' : Fil) : Prop :=
  (f'.name = f.name ∧ f'.bf = f.bf) ∧ if rank fs f < k then f'.b = f.b.take (f.sy + keepOf ks (rank fs f) f.b.length f.sy) ∧ f'.sy = f.sy + keepOf ks (rank fs f) f.b.length f.sy else f'.b = f.b ∧ f'.sy = f.sy
def Steps (ks : List Int) (fs : List Fil) (k : Nat) (fs' : List Fil) : Prop :=
  fs'.length = fs.length ∧ ∀ (j : Nat) (f f' : Fil), fs[j]? = some f → fs'[j]? = some f' → Step ks fs k f f'
theorem steps_zero (ks : List Int) (fs : List Fil) : Steps ks fs 0 fs := by
  refine ⟨rfl, fun j f f' h1 h2 => ?_⟩
  rw [h1] at h2; cases h2
  exact ⟨⟨rfl, rfl⟩, by simp⟩
theorem sorted_length (fs : List Fil) : (sorted fs).length = fs.length := by simp [sorted]
theorem sorted_perm (fs : List Fil) : (sorted fs).Perm (fs.map nm) := List.mergeSort_perm _ _
theorem nm_inj {f g : Fil} (h : nm f = nm g) : f.name = g.name := by
  unfold nm at h
  exact ByteArray.ext (Array.toList_inj.1 h)
theorem nodup_nm {w : World} {bd bm room : Nat} {fs : List Fil} (D : DiskAt w bd bm room fs) : (fs.map nm).Nodup := by
  have := D.names
  rw [List.nodup_iff_pairwise_ne, List.pairwise_map] at this ⊢
  exact this.imp (fun h e => h (nm_inj e))
theorem rank_of {w : World} {bd bm room : Nat} {fs : List Fil} (D : DiskAt w bd bm room fs) {k : Nat} {x : List UInt8} (hx : (sorted fs)[k]? = some x)   : ∃ (j : Nat) (f : Fil), fs[j]? = some f ∧ nm f = x ∧ rank fs f = k ∧ ∀ g ∈ fs, rank fs g = k → g.name = f.name := by
  have hmem : x ∈ fs.map nm := (sorted_perm fs).mem_iff.1 (List.mem_of_getElem? hx)
  obtain ⟨f, hf, rfl⟩ := List.mem_map.1 hmem
  obtain ⟨j, hj⟩ := List.mem_iff_getElem?.1 hf
  have hnd : (sorted fs).Nodup := (sorted_perm fs).nodup_iff.2 (nodup_nm D)
  obtain ⟨hk, e⟩ := List.getElem?_eq_some_iff.1 hx
  have hr : rank fs f = k := by unfold rank; rw [← e]; exact hnd.idxOf_getElem k hk
  refine ⟨j, f, hj, rfl, hr, fun g hg hgk => nm_inj ?_⟩
  have hgm : nm g ∈ sorted fs := (sorted_perm fs).mem_iff.2 (List.mem_map_of_mem hg)
  have : (sorted fs)[rank fs g]'(List.idxOf_lt_length_of_mem hgm) = nm g := List.getElem_idxOf _
  rw [← this]
  simp only [hgk, e]
theorem nodup_fs {fs : List Fil} (h : (fs.map nm).Nodup) : fs.Nodup := by
  rw [List.nodup_iff_pairwise_ne, List.pairwise_map] at h
  exact List.nodup_iff_pairwise_ne.2 (h.imp (fun h e => h (by rw [e])))
theorem nodup_get {α : Type} {l : List α} (h : l.Nodup) {i j : Nat} (hij : i < j) {x : α} (hi : l[i]? = some x) (hj : l[j]? = some x) : False := by
  obtain ⟨a, e1⟩ := List.getElem?_eq_some_iff.1 hi
  obtain ⟨b, e2⟩ := List.getElem?_eq_some_iff.1 hj
  exact List.pairwise_iff_getElem.1 (List.nodup_iff_pairwise_ne.1 h) i j a b hij (e1.trans e2.symm)
theorem step_one (ks : List Int) (fs fs' : List Fil) (k : Nat) {w : World} {bd bm room : Nat} (D : DiskAt w bd bm room fs) (h : Steps ks fs k fs') {l1 l2 : List Fil} {g g2 f : Fil} (hsp : fs' = l1 ++ g :: l2) (hf : fs[l1.length]? = some f) (hr : rank fs f = k) (hu : ∀ x ∈ fs, rank fs x = k → x.name = f.name)
    (hn : g2.name = g.name) (hbf : g2.bf = g.bf) (hb : g2.b = f.b.take (f.sy + keepOf ks k f.b.length f.sy)) (hs : g2.sy = f.sy + keepOf ks k f.b.length f.sy) : Steps ks fs (k + 1) (l1 ++ g2 :: l2) := by
  subst hsp
  refine ⟨by have := h.1; simp at this ⊢; omega, fun j x x' h1 h2 => ?_⟩
  rcases Nat.lt_trichotomy j l1.length with c | c | c
  · rw [List.getElem?_append_left c] at h2
    obtain ⟨e1, e2⟩ := h.2 j x x' h1 (by rw [List.getElem?_append_left c]; exact h2)
    refine ⟨e1, ?_⟩
    have hne : rank fs x ≠ k := fun e => by
      have hxn := hu x (List.mem_of_getElem? h1) e
      have : x = f := D.unique (List.mem_of_getElem? h1) (List.mem_of_getElem? hf) hxn
      subst this
      have hnd : fs.Nodup := nodup_fs (nodup_nm D)
      exact nodup_get hnd c h1 hf
    split at e2
    · rw [if_pos (by omega)]; exact e2
    · rw [if_neg (by omega)]; exact e2
  · subst c
    rw [hf] at h1; cases h1
    rw [List.getElem?_append_right (Nat.le_refl _)] at h2
    simp at h2
    subst h2
    obtain ⟨e1, _⟩ := h.2 l1.length f g hf (by simp)
    exact ⟨⟨hn.trans e1.1, hbf.trans e1.2⟩, by rw [if_pos (by omega), hr]; exact ⟨hb, hs⟩⟩
  · rw [List.getElem?_append_right (by omega)] at h2
    obtain ⟨e1, e2⟩ := h.2 j x x' h1 (by rw [List.getElem?_append_right (by omega)]; obtain ⟨d, hd⟩ : ∃ d, j - l1.length = d + 1 := ⟨j - l1.length - 1, by omega⟩; rw [hd] at h2 ⊢; simpa using h2)
    refine ⟨e1, ?_⟩
    have hne : rank fs x ≠ k := fun e => by
      have hxn := hu x (List.mem_of_getElem? h1) e
      have : x = f := D.unique (List.mem_of_getElem? h1) (List.mem_of_getElem? hf) hxn
      subst this
      have hnd : fs.Nodup := nodup_fs (nodup_nm D)
      exact nodup_get hnd c hf h1
    split at e2
    · rw [if_pos (by omega)]; exact e2
    · rw [if_neg (by omega)]; exact e2

theorem lookup_ptr {w : World} {bd bm room : Nat} {fs : List Fil} (D : DiskAt w bd bm room fs) (f : Fil) (hf : f ∈ fs) (s : ByteArray) (hs : f.name = s) :
    (Instr.lookup 92 (.map (some bm)) (.string s) false).run Tryz.prog w = .ok (.pointer (some ⟨f.bf, 0, none⟩)) w := by
  subst hs
  rcases Mp.lookup D.map law Tryz.underlying92 (zeroPtr w) false (D.good f hf).key with ⟨h1, _⟩ | ⟨v, h1, h2⟩
  · exact absurd rfl (h1 _ (List.mem_map_of_mem hf))
  · obtain ⟨g, hg, e⟩ := List.mem_map.1 h1
    simp only [Fil.kv, Prod.mk.injEq, Value.string.injEq] at e
    obtain rfl := D.unique hg hf e.1
    rw [h2, ← e.2]; rfl
/-- What a round does. -/
theorem crash_round {w wr wr' : World} {bd bm room : Nat} {ks : List Int} {fs l1 l2 : List Fil} {g f : Fil} {k : Nat} {gp : Option Addr} {gc : Nat} {v : Value} (D : DiskAt w bd bm room fs) (hst : Steps ks fs k (l1 ++ g :: l2)) (hev : Evolves w wr bd bm room fs (l1 ++ g :: l2)) (hf : fs[l1.length]? = some f)
    (hr : rank fs f = k) (hu : ∀ x ∈ fs, rank fs x = k → x.name = f.name) (hgb : g.b = f.b) (hgy : g.sy = f.sy) (hgbf : g.bf = f.bf) (hv : g.v = .slice gp g.b.length gc) (hB : Below wr.heap.size wr wr')
    (hown : wr.ownsRow w.heap.size 9 1 v fs.length ((sorted fs).map encStr)) (m : Nat) (hm : m = g.sy + keepOf ks k g.b.length g.sy) :
    ∃ fs', Steps ks fs (k + 1) fs' ∧ Evolves w ((wr'.setCell ⟨g.bf, 0, none⟩ (.slice gp m gc)).setCell ⟨g.bf, 1, none⟩ (.int .i64 m)) bd bm room fs fs' ∧
      ((wr'.setCell ⟨g.bf, 0, none⟩ (.slice gp m gc)).setCell ⟨g.bf, 1, none⟩ (.int .i64 m)).ownsRow w.heap.size 9 1 v fs.length ((sorted fs).map encStr) := by
  have D1 := hev.disk.below hB
  have F := D1.files g (by simp)
  have hml : m ≤ g.b.length := by rw [hm]; exact keepOf_le _ _ _ _ F.sy
  refine ⟨l1 ++ { g with v := .slice gp m gc, b := g.b.take m, sy := m } :: l2, step_one ks fs _ k D hst rfl hf hr hu rfl rfl (by rw [hm, hgb, hgy]) (by rw [hm, hgb, hgy]), ?_, ?_⟩
  · refine hev.trans ((Evolves.of_below hev.disk hB).trans (Evolves.upd D1 ((Touch.set _ _ _ (by simp [Fil.blocks])).trans (Touch.set _ _ _ (by simp [Fil.blocks])) (fun x h => .inl h)) ⟨?_, ?_, by simp; omega⟩ rfl rfl ?_ ?_))
    · rw [setCell_block (setCell_block F.cell _ _)]; simp
    · have ho := F.own
      rw [hv] at ho
      have ho := ownsRow_take ho hml
      simp only [List.length_take, Nat.min_eq_left hml, List.map_take]
      refine ownsRow_at ho (fun k hk => (Below.heap_setCell _ _ _ _ ?_).trans (Below.heap_setCell _ _ _ _ ?_)) <;> exact own_ne D1 (by rw [hv, ownBlock_slice]; rw [ownBlock_slice] at hk; exact hk)
    · intro k hk
      rw [hv, ownBlock_slice]; simp only [ownBlock_slice] at hk; exact .inl hk
    · have := D1.roomy
      rw [total_split] at this ⊢
      simp; omega
  · have hlt : g.bf < w.heap.size := by rw [hgbf]; exact D.lt _ (by simp only [DiskB, List.mem_cons, List.mem_flatMap]; exact .inr (.inr ⟨f, List.mem_of_getElem? hf, by simp [Fil.blocks]⟩))
    refine ownsRow_at hown (fun i hi => ?_)
    have h1 := hown.lt i hi
    rw [Below.heap_setCell _ _ _ _ (by simp only; omega), Below.heap_setCell _ _ _ _ (by simp only; omega)]
    exact hB.block i h1.2
/-- What Crash leaves. -/
def CrashPost (w : World) (bd bm room : Nat) (ks : List Int) (fs : List Fil) (e : Ending) (w' : World) : Prop :=
  e = .returned (.int .i64 0) ∧ ∃ fs', Steps ks fs fs.length fs' ∧ Evolves w w' bd bm room fs fs'
end Go.Proofs.YtcioejacijkbcaaGreatDoor.Vd
