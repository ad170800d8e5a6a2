/- vdisk: Crash. -/
import Derived.Test.YtpmalnhlbpdohaaVdL
import Derived.RegionTactic
import Derived.Lib.MinMax
import Derived.ChangeAlike
import Derived.BigRegion
namespace Go.Proofs.Ytpmalnhlbpdohaa.Vd
open Go.RowKit Go.Maps Go.ChangeMaps Go.WideMaps Go.Sort
set_option linter.unusedVariables false

/-- what is kept of a file's tail, if so much may be: keep's number for the file's place among the names -/
def keepOf (ks : List Int) (i : Nat) (len sy : Nat) : Nat := if i < ks.length then (min (max (ks.getD i 0) 0) ((len : Int) - sy)).toNat else 0
theorem keepOf_le (ks : List Int) (i len sy : Nat) (h : sy ≤ len) : sy + keepOf ks i len sy ≤ len := by
  unfold keepOf; split <;> omega
def rank (fs : List Fil) (f : Fil) : Nat := (sorted fs).idxOf (nm f)
/-- a file behind k steps of a crash -/
def Step (ks : List Int) (fs : List Fil) (k : Nat) (f f' : Fil) : Prop :=
  (f'.name = f.name ∧ f'.bf = f.bf) ∧ if rank fs f < k then f'.b = f.b.take (f.sy + keepOf ks (rank fs f) f.b.length f.sy) ∧ f'.sy = f.sy + keepOf ks (rank fs f) f.b.length f.sy else f'.b = f.b ∧ f'.sy = f.sy
def Steps (ks : List Int) (fs : List Fil) (k : Nat) (fs' : List Fil) : Prop :=
  fs'.length = fs.length ∧ ∀ (j : Nat) (f f' : Fil), fs[j]? = some f → fs'[j]? = some f' → Step ks fs k f f'
theorem steps_zero (ks : List Int) (fs : List Fil) : Steps ks fs 0 fs := by
  refine ⟨rfl, fun j f f' h1 h2 => ?_⟩
  rw [h1] at h2; cases h2
  exact ⟨⟨rfl, rfl⟩, by simp⟩
theorem sorted_length (fs : List Fil) : (sorted fs).length = fs.length := by simp [sorted]
theorem sorted_perm (fs : List Fil) : (sorted fs).Perm (fs.map nm) := List.mergeSort_perm _ _
theorem nm_inj {f g : Fil} (h : nm f = nm g) : f.name = g.name := by
  unfold nm at h
  exact ByteArray.ext (Array.toList_inj.1 h)
theorem nodup_nm {w : World} {bd bm room : Nat} {fs : List Fil} (D : DiskAt w bd bm room fs) : (fs.map nm).Nodup := by
  have := D.names
  rw [List.nodup_iff_pairwise_ne, List.pairwise_map] at this ⊢
  exact this.imp (fun h e => h (nm_inj e))
theorem rank_of {w : World} {bd bm room : Nat} {fs : List Fil} (D : DiskAt w bd bm room fs) {k : Nat} {x : List UInt8} (hx : (sorted fs)[k]? = some x)   : ∃ (j : Nat) (f : Fil), fs[j]? = some f ∧ nm f = x ∧ rank fs f = k ∧ ∀ g ∈ fs, rank fs g = k → g.name = f.name := by
  have hmem : x ∈ fs.map nm := (sorted_perm fs).mem_iff.1 (List.mem_of_getElem? hx)
  obtain ⟨f, hf, rfl⟩ := List.mem_map.1 hmem
  obtain ⟨j, hj⟩ := List.mem_iff_getElem?.1 hf
  have hnd : (sorted fs).Nodup := (sorted_perm fs).nodup_iff.2 (nodup_nm D)
  obtain ⟨hk, e⟩ := List.getElem?_eq_some_iff.1 hx
  have hr : rank fs f = k := by unfold rank; rw [← e]; exact hnd.idxOf_getElem k hk
  refine ⟨j, f, hj, rfl, hr, fun g hg hgk => nm_inj ?_⟩
  have hgm : nm g ∈ sorted fs := (sorted_perm fs).mem_iff.2 (List.mem_map_of_mem hg)
  have : (sorted fs)[rank fs g]'(List.idxOf_lt_length_of_mem hgm) = nm g := List.getElem_idxOf _
  rw [← this]
  simp only [hgk, e]
theorem nodup_fs {fs : List Fil} (h : (fs.map nm).Nodup) : fs.Nodup := by
  rw [List.nodup_iff_pairwise_ne, List.pairwise_map] at h
  exact List.nodup_iff_pairwise_ne.2 (h.imp (fun h e => h (by rw [e])))
theorem nodup_get {α : Type} {l : List α} (h : l.Nodup) {i j : Nat} (hij : i < j) {x : α} (hi : l[i]? = some x) (hj : l[j]? = some x) : False := by
  obtain ⟨a, e1⟩ := List.getElem?_eq_some_iff.1 hi
  obtain ⟨b, e2⟩ := List.getElem?_eq_some_iff.1 hj
  exact List.pairwise_iff_getElem.1 (List.nodup_iff_pairwise_ne.1 h) i j a b hij (e1.trans e2.symm)
theorem step_one (ks : List Int) (fs fs' : List Fil) (k : Nat) {w : World} {bd bm room : Nat} (D : DiskAt w bd bm room fs) (h : Steps ks fs k fs') {l1 l2 : List Fil} {g g2 f : Fil} (hsp : fs' = l1 ++ g :: l2) (hf : fs[l1.length]? = some f) (hr : rank fs f = k) (hu : ∀ x ∈ fs, rank fs x = k → x.name = f.name)
    (hn : g2.name = g.name) (hbf : g2.bf = g.bf) (hb : g2.b = f.b.take (f.sy + keepOf ks k f.b.length f.sy)) (hs : g2.sy = f.sy + keepOf ks k f.b.length f.sy) : Steps ks fs (k + 1) (l1 ++ g2 :: l2) := by
  subst hsp
  refine ⟨by have := h.1; simp at this ⊢; omega, fun j x x' h1 h2 => ?_⟩
  rcases Nat.lt_trichotomy j l1.length with c | c | c
  · rw [List.getElem?_append_left c] at h2
    obtain ⟨e1, e2⟩ := h.2 j x x' h1 (by rw [List.getElem?_append_left c]; exact h2)
    refine ⟨e1, ?_⟩
    have hne : rank fs x ≠ k := fun e => by
      have hxn := hu x (List.mem_of_getElem? h1) e
      have : x = f := D.unique (List.mem_of_getElem? h1) (List.mem_of_getElem? hf) hxn
      subst this
      have hnd : fs.Nodup := nodup_fs (nodup_nm D)
      exact nodup_get hnd c h1 hf
    split at e2
    · rw [if_pos (by omega)]; exact e2
    · rw [if_neg (by omega)]; exact e2
  · subst c
    rw [hf] at h1; cases h1
    rw [List.getElem?_append_right (Nat.le_refl _)] at h2
    simp at h2
    subst h2
    obtain ⟨e1, _⟩ := h.2 l1.length f g hf (by simp)
    exact ⟨⟨hn.trans e1.1, hbf.trans e1.2⟩, by rw [if_pos (by omega), hr]; exact ⟨hb, hs⟩⟩
  · rw [List.getElem?_append_right (by omega)] at h2
    obtain ⟨e1, e2⟩ := h.2 j x x' h1 (by rw [List.getElem?_append_right (by omega)]; obtain ⟨d, hd⟩ : ∃ d, j - l1.length = d + 1 := ⟨j - l1.length - 1, by omega⟩; rw [hd] at h2 ⊢; simpa using h2)
    refine ⟨e1, ?_⟩
    have hne : rank fs x ≠ k := fun e => by
      have hxn := hu x (List.mem_of_getElem? h1) e
      have : x = f := D.unique (List.mem_of_getElem? h1) (List.mem_of_getElem? hf) hxn
      subst this
      have hnd : fs.Nodup := nodup_fs (nodup_nm D)
      exact nodup_get hnd c hf h1
    split at e2
    · rw [if_pos (by omega)]; exact e2
    · rw [if_neg (by omega)]; exact e2

theorem lookup_ptr {w : World} {bd bm room : Nat} {fs : List Fil} (D : DiskAt w bd bm room fs) (f : Fil) (hf : f ∈ fs) (s : ByteArray) (hs : f.name = s) :
    (Instr.lookup 61 (.map (some bm)) (.string s) false).run Try.prog w = .ok (.pointer (some ⟨f.bf, 0, none⟩)) w := by
  subst hs
  rcases Mp.lookup D.map law Try.underlying61 (zeroPtr w) false (D.good f hf).key with ⟨h1, _⟩ | ⟨v, h1, h2⟩
  · exact absurd rfl (h1 _ (List.mem_map_of_mem hf))
  · obtain ⟨g, hg, e⟩ := List.mem_map.1 h1
    simp only [Fil.kv, Prod.mk.injEq, Value.string.injEq] at e
    obtain rfl := D.unique hg hf e.1
    rw [h2, ← e.2]; rfl
/-- What a round does. -/
theorem crash_round {w wr wr' : World} {bd bm room : Nat} {ks : List Int} {fs l1 l2 : List Fil} {g f : Fil} {k : Nat} {gp : Option Addr} {gc : Nat} {v : Value} (D : DiskAt w bd bm room fs) (hst : Steps ks fs k (l1 ++ g :: l2)) (hev : Evolves w wr bd bm room fs (l1 ++ g :: l2)) (hf : fs[l1.length]? = some f)
    (hr : rank fs f = k) (hu : ∀ x ∈ fs, rank fs x = k → x.name = f.name) (hgb : g.b = f.b) (hgy : g.sy = f.sy) (hgbf : g.bf = f.bf) (hv : g.v = .slice gp g.b.length gc) (hB : Below wr.heap.size wr wr')
    (hown : wr.ownsRow w.heap.size 9 1 v fs.length ((sorted fs).map encStr)) (m : Nat) (hm : m = g.sy + keepOf ks k g.b.length g.sy) :
    ∃ fs', Steps ks fs (k + 1) fs' ∧ Evolves w ((wr'.setCell ⟨g.bf, 0, none⟩ (.slice gp m gc)).setCell ⟨g.bf, 1, none⟩ (.int .i64 m)) bd bm room fs fs' ∧
      ((wr'.setCell ⟨g.bf, 0, none⟩ (.slice gp m gc)).setCell ⟨g.bf, 1, none⟩ (.int .i64 m)).ownsRow w.heap.size 9 1 v fs.length ((sorted fs).map encStr) := by
  have D1 := hev.disk.below hB
  have F := D1.files g (by simp)
  have hml : m ≤ g.b.length := by rw [hm]; exact keepOf_le _ _ _ _ F.sy
  refine ⟨l1 ++ { g with v := .slice gp m gc, b := g.b.take m, sy := m } :: l2, step_one ks fs _ k D hst rfl hf hr hu rfl rfl (by rw [hm, hgb, hgy]) (by rw [hm, hgb, hgy]), ?_, ?_⟩
  · refine hev.trans ((Evolves.of_below hev.disk hB).trans (Evolves.upd D1 ((Touch.set _ _ _ (by simp [Fil.blocks])).trans (Touch.set _ _ _ (by simp [Fil.blocks])) (fun x h => .inl h)) ⟨?_, ?_, by simp; omega⟩ rfl rfl ?_ ?_))
    · rw [setCell_block (setCell_block F.cell _ _)]; simp
    · have ho := F.own
      rw [hv] at ho
      have ho := ownsRow_take ho hml
      simp only [List.length_take, Nat.min_eq_left hml, List.map_take]
      refine ownsRow_at ho (fun k hk => (Below.heap_setCell _ _ _ _ ?_).trans (Below.heap_setCell _ _ _ _ ?_)) <;> exact own_ne D1 (by rw [hv, ownBlock_slice]; rw [ownBlock_slice] at hk; exact hk)
    · intro k hk
      rw [hv, ownBlock_slice]; simp only [ownBlock_slice] at hk; exact .inl hk
    · have := D1.roomy
      rw [total_split] at this ⊢
      simp; omega
  · have hlt : g.bf < w.heap.size := by rw [hgbf]; exact D.lt _ (by simp only [DiskB, List.mem_cons, List.mem_flatMap]; exact .inr (.inr ⟨f, List.mem_of_getElem? hf, by simp [Fil.blocks]⟩))
    refine ownsRow_at hown (fun i hi => ?_)
    have h1 := hown.lt i hi
    rw [Below.heap_setCell _ _ _ _ (by simp only; omega), Below.heap_setCell _ _ _ _ (by simp only; omega)]
    exact hB.block i h1.2
/-- What Crash leaves. -/
def CrashPost (w : World) (bd bm room : Nat) (ks : List Int) (fs : List Fil) (e : Ending) (w' : World) : Prop :=
  e = .returned (.int .i64 0) ∧ ∃ fs', Steps ks fs fs.length fs' ∧ Evolves w w' bd bm room fs fs'
set_option maxRecDepth 100000 in
set_option maxHeartbeats 800000 in
theorem crash_yes {w : World} {bd bm room : Nat} {fs : List Fil} (D : DiskAt w bd bm room fs) (ka : Option Addr) (kc : Nat) (ks : List Int) (hks : ks.length ≤ 1099511627776)
    (hka : ∀ i, i < ks.length → ∃ a, ka = some a ∧ a.block < w.heap.size ∧ ¬ DiskB bd bm fs a.block ∧ w.cell? (a.add i) = some (.int .i64 (ks.getD i 0))) :
    Calls Try.prog 21 #[.pointer (some ⟨bd, 0, none⟩), .slice ka ks.length kc] w (CrashPost w bd bm room ks fs) := by
  have hc := cell_of D.disk 0
  simp only [List.getElem?_toArray, List.getElem?_cons_zero] at hc
  have hfew := D.few
  have HD := Lib.hid D
  have HK := Lib.hid hka
  clear D hka
  go_enter Try.func21, Try.ntmps21
  go_wp2_with fail
  refine (given_any w bd (some bm) hc).mono ?_
  rintro e w' ⟨rfl, rfl⟩
  go_wp2_with fail
  refine (names_yes HD.out).mono ?_
  rintro e w1 ⟨v, rfl, hown, hb⟩
  obtain ⟨ap, vc, rfl⟩ : ∃ a c, v = .slice a fs.length c := by
    rcases hown.2 with ⟨h1, h2⟩ | ⟨g, cap, cur, h1, _⟩
    · exact ⟨none, 0, by rw [h1, h2]⟩
    · exact ⟨_, _, h1⟩
  have HO := Lib.hid hown
  clear hown
  go_wp2_with fail
  go_loopw [5, 6, 7, 8, 15] (fun _ _ _ _ s w' => ∃ (k : Nat) (fs' : List Fil), k ≤ fs.length ∧ s = .int .i64 k ∧ Steps ks fs k fs' ∧ Evolves w w' bd bm room fs fs' ∧ w'.ownsRow w.heap.size 9 1 (.slice ap fs.length vc) fs.length ((sorted fs).map encStr)) (fun _ _ _ _ s _ => fs.length - (intOf s).toNat)
  case atStart => exact ⟨0, fs, Nat.zero_le _, rfl, steps_zero ks fs, Evolves.of_below HD.out hb, HO.out⟩
  case round =>
    obtain ⟨k, fs', hk, rfl, hst, hev, hown⟩ := hrel
    by_cases hlt : k < fs.length
    · have hx : (sorted fs)[k]? = some ((sorted fs)[k]'(by rw [sorted_length]; exact hlt)) := List.getElem?_eq_getElem _
      generalize (sorted fs)[k]'(by rw [sorted_length]; exact hlt) = x at hx
      obtain ⟨j, f, hj, hnx, hr, hu⟩ := rank_of HD.out hx
      have hjl : j < fs'.length := by rw [hst.1]; exact (List.getElem?_eq_some_iff.1 hj).1
      have hg : fs'[j]? = some (fs'[j]'hjl) := List.getElem?_eq_getElem _
      generalize hgg : fs'[j]'hjl = g at hg
      obtain ⟨⟨hgn, hgbf⟩, hgs⟩ := hst.2 j f g hj hg
      rw [if_neg (by omega)] at hgs
      obtain ⟨hgb, hgy⟩ := hgs
      have hsp : fs' = fs'.take j ++ g :: fs'.drop (j + 1) := by rw [← hgg, ← List.drop_eq_getElem_cons hjl, List.take_append_drop]
      have hjt : (fs'.take j).length = j := by simp; omega
      have hkn : Value.string g.name = encStr x := by rw [hgn, enc_nm, hnx]
      -- the cell of the name
      have hcn : ∃ a, ap = some a ∧ wr.cell? (a.add k) = some (.string g.name) := by
        rcases hown.2 with ⟨h1, h2⟩ | ⟨g0, cap, cur, h1, _⟩
        · omega
        · simp only [Value.slice.injEq] at h1
          obtain ⟨rfl, _, rfl⟩ := h1
          exact ⟨_, rfl, hown.cells (g := g0) rfl k _ (by rw [List.getElem?_map, hx, hkn]; rfl)⟩
      obtain ⟨a, rfl, hcn⟩ := hcn
      rw [hsp] at hev hst
      rw [← hjt] at hj
      have hD := hev.disk
      have hlk := lookup_ptr hD g (by simp) g.name rfl
      have hcd : wr.cell? ⟨bd, 0, none⟩ = some (.map (some bm)) := cell_of hD.disk 0
      have F := hD.files g (by simp)
      obtain ⟨gp, gc, hv, hnil, hcap, hap⟩ := F.slice
      have hc0 := cell_of F.cell 0
      have hc1 := cell_of F.cell 1
      have hz0 := frozen_of F.cell 0
      have hz1 := frozen_of F.cell 1
      simp only [List.getElem?_toArray, List.getElem?_cons_zero, List.getElem?_cons_succ, hv] at hc0 hc1
      have hsy := F.sy
      have hle : g.b.length ≤ 16777216 := by have := le_total (f := g) (fs := fs'.take j ++ g :: fs'.drop (j + 1)) (by simp); have := hD.roomy; have := hD.small; omega
      have hkc : k < ks.length → ∃ a, ka = some a ∧ wr.cell? (a.add k) = some (.int .i64 (ks.getD k 0)) := by
        intro hkk
        obtain ⟨a, h1, h2, h3, h4⟩ := HK.out k hkk
        have hab : (a.add k).block = a.block := by unfold Addr.add; split <;> rfl
        exact ⟨a, h1, (World.cell?_of_block (w := w) (a := a.add k) (by rw [hab]; exact hev.touch.block a.block h2 h3)).trans h4⟩
      have HR := Lib.hid (fun (wr' : World) (hB : Below wr.heap.size wr wr') => crash_round HD.out hst hev hj hr hu hgb hgy hgbf hv hB hown)
      clear hv F hD hev hst hsp hown hx hj hg hgg hgn hgbf hgb hgy hjt hkn hu hnx hr hnil hap
      by_cases hkk : k < ks.length
      · obtain ⟨a', rfl, hkc⟩ := hkc hkk
        have hw1 : IntKind.i64.wrap ((g.b.length : Int) - (g.sy : Int)) = (g.b.length : Int) - g.sy := IntWalk.i64_in _ (by omega)
        have hw2 : IntKind.i64.wrap ((g.sy : Int) + min (max ks[k] 0) ((g.b.length : Int) - g.sy)) = (g.sy : Int) + min (max ks[k] 0) ((g.b.length : Int) - g.sy) := IntWalk.i64_in _ (by omega)
        have hm0 : (0 : Int) ≤ (g.sy : Int) + min (max ks[k] 0) ((g.b.length : Int) - g.sy) := by omega
        have hm1 : (g.sy : Int) + min (max ks[k] 0) ((g.b.length : Int) - g.sy) ≤ (gc : Int) := by omega
        have hkv : ((keepOf ks k g.b.length g.sy : Nat) : Int) = min (max ks[k] 0) ((g.b.length : Int) - g.sy) := by
          unfold keepOf
          rw [if_pos hkk, List.getD_eq_getElem?_getD, List.getElem?_eq_getElem hkk]
          simp only [Option.getD_some]
          omega
        have hE1 : ((g.sy : Int) + min (max ks[k] 0) ((g.b.length : Int) - g.sy)).toNat = g.sy + keepOf ks k g.b.length g.sy := by omega
        have hE2 : max ((g.sy : Int) + min (max ks[k] 0) ((g.b.length : Int) - g.sy)) 0 = ((g.sy + keepOf ks k g.b.length g.sy : Nat) : Int) := by omega
        have HE1 := Lib.hid hE1
        have HE2 := Lib.hid hE2
        have hb1 : (0 : Int) ≤ (k : Int) := by omega
        have hb2 : (k : Int) < (ks.length : Int) := by omega
        clear hkv hE1 hE2
        go_wp2
        go_quiet (fail)
        go_wp2
        go_region
        all_goals
          go_wp2
          obtain ⟨fs2, h1, h2, h3⟩ := HR.out (wr.drewN (nq + 1)) ⟨rfl, rfl, rfl, Nat.le_refl _, fun _ _ => rfl⟩ _ rfl
          go_roundw
          case rel => rw [HE1.out, HE2.out]; exact ⟨k + 1, fs2, by omega, by go_num, h1, h2, h3⟩
          case measure => simp [intOf]; omega
      · clear hkc
        have hs1 : IntKind.i64.wrap ((g.sy : Int) + 0) = (g.sy : Int) := by rw [Int.add_zero]; exact IntWalk.i64_in _ (by omega)
        go_wp2
        go_region
        all_goals
          go_wp2
          obtain ⟨fs2, h1, h2, h3⟩ := HR.out wr.drew (Below.refl _ _).drew g.sy (by unfold keepOf; rw [if_neg hkk]; rfl)
          go_roundw
          case rel => exact ⟨k + 1, fs2, by omega, by go_num, h1, h2, h3⟩
          case measure => simp [intOf]; omega
    · have HS := Lib.hid hst
      have HE := Lib.hid hev
      have hkk : k = fs.length := by omega
      have HKK := Lib.hid hkk
      clear hst hev hown hkk
      go_wp2
      go_ret
      exact ⟨rfl, fs', by rw [← HKK.out]; exact HS.out, HE.out⟩
end Go.Proofs.Ytpmalnhlbpdohaa.Vd
