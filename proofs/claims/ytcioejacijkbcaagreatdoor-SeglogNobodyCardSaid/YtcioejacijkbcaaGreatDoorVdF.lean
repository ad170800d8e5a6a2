/- vdisk: what writes: Sync, Cut, Remove. -/
import Derived.Test.YtcioejacijkbcaaGreatDoorVdD
namespace Go.Proofs.YtcioejacijkbcaaGreatDoor.Vd
open Go.RowKit Go.Maps Go.ChangeMaps Go.WideMaps
set_option linter.unusedVariables false

theorem nodup_swap {A B B' C : List Nat} {N : Nat} (h : (A ++ (B ++ C)).Nodup) (hB : B'.Nodup) (hs : ∀ x ∈ B', x ∈ B ∨ N ≤ x) (hA : ∀ x ∈ A, x < N) (hC : ∀ x ∈ C, x < N) : (A ++ (B' ++ C)).Nodup := by
  simp only [List.nodup_append, List.mem_append] at h ⊢
  obtain ⟨h1, ⟨h2, h3, h4⟩, h5⟩ := h
  refine ⟨h1, ⟨hB, h3, fun x hx y hy e => ?_⟩, fun x hx y hy e => ?_⟩
  · subst e
    rcases hs x hx with h | h
    · exact h4 x h x hy rfl
    · have := hC x hy; omega
  · subst e
    rcases hy with hy | hy
    · rcases hs x hy with h | h
      · exact h5 x hx x (.inl h) rfl
      · have := hA x hx; omega
    · exact h5 x hx x (.inr hy) rfl
theorem blocks_split (bd bm : Nat) (l1 l2 : List Fil) (f : Fil) : bd :: bm :: (l1 ++ f :: l2).flatMap Fil.blocks = (bd :: bm :: l1.flatMap Fil.blocks) ++ (f.blocks ++ l2.flatMap Fil.blocks) := by simp
theorem total_split (l1 l2 : List Fil) (f : Fil) : total (l1 ++ f :: l2) = total l1 + f.b.length + total l2 := by simp [total]; omega

/-- One file is another one now; its block is the same; its row is the same, or new, or there is none. -/
theorem DiskAt.upd {w w' : World} {bd bm room : Nat} {l1 l2 : List Fil} {f f' : Fil} (D : DiskAt w bd bm room (l1 ++ f :: l2)) (hT : Touch (· ∈ f.blocks) w w') (hF : FilAt w' f') (hn : f'.name = f.name) (hb : f'.bf = f.bf)
    (hrow : ∀ k, f'.v.ownBlock = some k → f.v.ownBlock = some k ∨ w.heap.size ≤ k) (htot : total (l1 ++ f' :: l2) ≤ room) :
    DiskAt w' bd bm room (l1 ++ f' :: l2) ∧ ∀ k, DiskB bd bm (l1 ++ f' :: l2) k → DiskB bd bm (l1 ++ f :: l2) k ∨ w.heap.size ≤ k := by
  have hap := D.apart
  rw [blocks_split] at hap
  have hlt := D.lt
  simp only [DiskB, blocks_split] at hlt
  have hsub : ∀ x ∈ f'.blocks, x ∈ f.blocks ∨ w.heap.size ≤ x := by
    intro x hx
    simp only [Fil.blocks, List.mem_cons, Option.mem_toList] at hx ⊢
    rcases hx with rfl | hx
    · exact .inl (.inl hb)
    · rcases hrow x hx with h | h
      · exact .inl (.inr h)
      · exact .inr h
  have hnd : f'.blocks.Nodup := by
    have h0 : f.blocks.Nodup := (List.nodup_append.1 (List.nodup_append.1 hap).2.1).1
    simp only [Fil.blocks] at h0 ⊢
    rcases hv : f'.v.ownBlock with _ | k
    · simp
    · simp only [Option.toList_some, List.nodup_cons, List.mem_singleton, List.not_mem_nil, not_false_iff, List.nodup_nil, and_true]
      intro e
      rcases hrow k hv with h | h
      · rw [h] at h0; simp at h0; exact h0 (hb ▸ e)
      · have := hlt f.bf (by simp [Fil.blocks]); omega
  have hnew : (bd :: bm :: (l1 ++ f' :: l2).flatMap Fil.blocks).Nodup := by
    rw [blocks_split]
    exact nodup_swap hap hnd hsub (fun x hx => hlt x (by simp only [List.mem_append]; exact .inl hx)) (fun x hx => hlt x (by simp only [List.mem_append]; exact .inr (.inr hx)))
  have hout : ∀ k, k ∈ bd :: bm :: l1.flatMap Fil.blocks ∨ k ∈ l2.flatMap Fil.blocks → w'.heap[k]? = w.heap[k]? := by
    intro k hk
    refine hT.block k (hlt k (by simp only [List.mem_append]; rcases hk with h | h; exact .inl h; exact .inr (.inr h))) (fun hx => ?_)
    rcases hk with h | h
    · exact (List.nodup_append.1 hap).2.2 k h k (by simp only [List.mem_append]; exact .inl hx) rfl
    · exact (List.nodup_append.1 (List.nodup_append.1 hap).2.1).2.2 k hx k h rfl
  refine ⟨⟨(hout bd (.inl (by simp))).trans D.disk, ?_, ?_, hnew, ?_, htot, D.small, by simpa using D.few⟩, ?_⟩
  · have := D.map.kept (w' := w') (hout bm (.inl (by simp)))
    simpa [Fil.kv, hn, hb] using this
  · intro g hg
    simp only [List.mem_append, List.mem_cons] at hg
    rcases hg with hg | rfl | hg
    · exact (D.files g (by simp [hg])).kept (fun k hk => hout k (.inl (by simp only [List.mem_cons, List.mem_flatMap]; exact .inr (.inr ⟨g, hg, hk⟩))))
    · exact hF
    · exact (D.files g (by simp [hg])).kept (fun k hk => hout k (.inr (by simp only [List.mem_flatMap]; exact ⟨g, hg, hk⟩)))
  · intro g hg
    simp only [List.mem_append, List.mem_cons] at hg
    rcases hg with hg | rfl | hg
    · exact D.good g (by simp [hg])
    · rw [hn]; exact D.good f (by simp)
    · exact D.good g (by simp [hg])
  · intro k hk
    simp only [DiskB, blocks_split, List.mem_append] at hk ⊢
    rcases hk with h | h | h
    · exact .inl (.inl h)
    · rcases hsub k h with h | h
      · exact .inl (.inr (.inl h))
      · exact .inr h
    · exact .inl (.inr (.inr h))

/-- What a call on a disk leaves: another disk of the same blocks, or new ones; all else as it was. -/
structure Evolves (w w' : World) (bd bm room : Nat) (fs fs' : List Fil) : Prop where
  disk : DiskAt w' bd bm room fs'
  touch : Touch (DiskB bd bm fs) w w'
  new : ∀ k, DiskB bd bm fs' k → DiskB bd bm fs k ∨ w.heap.size ≤ k
theorem Evolves.of_below {w w' : World} {bd bm room : Nat} {fs : List Fil} (D : DiskAt w bd bm room fs) (h : Below w.heap.size w w') : Evolves w w' bd bm room fs fs := ⟨D.below h, Touch.ofBelow h, fun _ => .inl⟩
theorem Evolves.trans {w w1 w2 : World} {bd bm room : Nat} {fs fs1 fs2 : List Fil} (h : Evolves w w1 bd bm room fs fs1) (k : Evolves w1 w2 bd bm room fs1 fs2) : Evolves w w2 bd bm room fs fs2 :=
  ⟨k.disk, h.touch.trans k.touch h.new, fun x hx => by
    rcases k.new x hx with h' | h'
    · exact h.new x h'
    · exact .inr (Nat.le_trans h.touch.size h')⟩
theorem Evolves.below {w w' : World} {bd bm room B : Nat} {fs fs' : List Fil} (h : Evolves w w' bd bm room fs fs') (hB : B ≤ w.heap.size) (hF : ∀ k, DiskB bd bm fs k → B ≤ k) : Below B w w' ∧ ∀ k, DiskB bd bm fs' k → B ≤ k :=
  ⟨h.touch.below hB hF, fun k hk => by rcases h.new k hk with h | h; exact hF k h; omega⟩
theorem Evolves.upd {w w' : World} {bd bm room : Nat} {l1 l2 : List Fil} {f f' : Fil} (D : DiskAt w bd bm room (l1 ++ f :: l2)) (hT : Touch (· ∈ f.blocks) w w') (hF : FilAt w' f') (hn : f'.name = f.name) (hb : f'.bf = f.bf)
    (hrow : ∀ k, f'.v.ownBlock = some k → f.v.ownBlock = some k ∨ w.heap.size ≤ k) (htot : total (l1 ++ f' :: l2) ≤ room) : Evolves w w' bd bm room (l1 ++ f :: l2) (l1 ++ f' :: l2) := by
  obtain ⟨h1, h2⟩ := D.upd hT hF hn hb hrow htot
  exact ⟨h1, hT.mono (fun x hx => by simp only [DiskB, blocks_split, List.mem_append]; exact .inr (.inl hx)), h2⟩

theorem setCell_block {w : World} {b : Nat} {cs : Array Value} {t : TypeId} {fr : Nat × Nat} (h : w.heap[b]? = some (.cells cs t fr)) (i : Nat) (v : Value) : (w.setCell ⟨b, i, none⟩ v).heap[b]? = some (.cells (cs.setIfInBounds i v) t fr) := by
  simp only [World.setCell, Array.getElem?_modify]
  rw [if_pos trivial, h]; rfl
theorem ownBlock_slice (a : Option Addr) (n c : Nat) : (Value.slice a n c).ownBlock = a.map (·.block) := by cases a <;> rfl
theorem own_ne {w : World} {bd bm room : Nat} {l1 l2 : List Fil} {f : Fil} (D : DiskAt w bd bm room (l1 ++ f :: l2)) {k : Nat} (hk : f.v.ownBlock = some k) : k ≠ f.bf := by
  intro e
  have := D.apart
  rw [blocks_split] at this
  have := (List.nodup_append.1 (List.nodup_append.1 this).2.1).1
  simp [Fil.blocks, hk, e] at this
theorem sync_some {w : World} {bd bm room : Nat} {l1 l2 : List Fil} (f : Fil) (D : DiskAt w bd bm room (l1 ++ f :: l2)) (s : ByteArray) (hs : f.name = s) :
    Calls Tryz.prog 63 #[.pointer (some ⟨bd, 0, none⟩), .string s] w fun e w' => e = .returned (.int .i64 0) ∧ Evolves w w' bd bm room (l1 ++ f :: l2) (l1 ++ { f with sy := f.b.length } :: l2) := by
  have HD := Lib.hid D
  have HS := Lib.hid hs
  clear D hs
  go_enter Tryz.func63, Tryz.ntmps63
  go_wp2_with fail
  refine (find_some HD.out f (by simp) s HS.out).mono ?_
  rintro e w1 ⟨rfl, hb⟩
  have D1 := HD.out.below hb
  have F := D1.files f (by simp)
  obtain ⟨ap, c, hv, -, -, -⟩ := F.slice
  have hc := cell_of F.cell 0
  have hc1 := cell_of F.cell 1
  have hz1 := frozen_of F.cell 1
  simp only [List.getElem?_toArray, List.getElem?_cons_zero, List.getElem?_cons_succ, hv] at hc hc1
  have HV := Lib.hid hv
  have HF := Lib.hid F
  have H1 := Lib.hid D1
  clear hv F D1
  go_wp2
  go_ret
  refine ⟨rfl, (Evolves.of_below HD.out hb).trans (Evolves.upd H1.out (Touch.set _ _ _ (by simp [Fil.blocks])) ⟨?_, ?_, Nat.le_refl _⟩ rfl rfl (fun k hk => .inl hk) ?_)⟩
  · rw [setCell_block HF.out.cell]; simp
  · refine ownsRow_at HF.out.own (fun k hk => Below.heap_setCell _ _ _ _ ?_)
    exact own_ne H1.out hk
  · have := H1.out.roomy
    simpa [total] using this

theorem ownsRow_take {w : World} {base : Nat} {e : TypeId} {ap : Option Addr} {n c m : Nat} {xs : List Value} (h : w.ownsRow base e 1 (.slice ap n c) n xs) (hm : m ≤ n) : w.ownsRow base e 1 (.slice ap m c) m (xs.take m) := by
  obtain ⟨h1, h2⟩ := h
  refine ⟨by simp; omega, ?_⟩
  rcases h2 with ⟨h2, h3⟩ | ⟨g, cap, cur, h2, h3, h4, h5, h6, h7, h8⟩
  · simp only [Value.slice.injEq] at h2
    obtain ⟨rfl, h4, rfl⟩ := h2
    have : m = 0 := by omega
    subst this
    exact .inl ⟨rfl, rfl⟩
  · simp only [Value.slice.injEq, true_and] at h2
    obtain ⟨rfl, rfl⟩ := h2
    refine .inr ⟨g, c, cur, rfl, h3, h4, by omega, h6, h7, ?_⟩
    rw [← h8, List.take_take]
    congr 1; omega
theorem cut_some {w : World} {bd bm room : Nat} {l1 l2 : List Fil} (f : Fil) (D : DiskAt w bd bm room (l1 ++ f :: l2)) (s : ByteArray) (hs : f.name = s) (n : Nat) (hn : n ≤ f.b.length) :
    Calls Tryz.prog 83 #[.pointer (some ⟨bd, 0, none⟩), .string s, .int .i64 n] w fun e w' => e = .returned (.int .i64 0) ∧ ∃ f' : Fil, f'.name = f.name ∧ f'.b = f.b.take n ∧ f'.sy = n ∧ Evolves w w' bd bm room (l1 ++ f :: l2) (l1 ++ f' :: l2) := by
  have hle : f.b.length ≤ 16777216 := by have := le_total (f := f) (fs := l1 ++ f :: l2) (by simp); have := D.roomy; have := D.small; omega
  have HD := Lib.hid D
  have HS := Lib.hid hs
  clear D hs
  go_enter Tryz.func83, Tryz.ntmps83
  go_wp2_with fail
  refine (find_some HD.out f (by simp) s HS.out).mono ?_
  rintro e w1 ⟨rfl, hb⟩
  have D1 := HD.out.below hb
  have F := D1.files f (by simp)
  obtain ⟨ap, c, hv, hnil, hcap, hap⟩ := F.slice
  have hc := cell_of F.cell 0
  have hc1 := cell_of F.cell 1
  have hz0 := frozen_of F.cell 0
  have hz1 := frozen_of F.cell 1
  simp only [List.getElem?_toArray, List.getElem?_cons_zero, List.getElem?_cons_succ, hv] at hc hc1
  have HV := Lib.hid hv
  have HF := Lib.hid F
  have H1 := Lib.hid D1
  have HN := Lib.hid hnil
  have HA := Lib.hid hap
  have d1 : decide ((n : Int) < 0) = false := by simp
  have d2 : decide (f.b.length < n) = false := by simp; omega
  clear hv F D1 hnil hap
  go_wp2
  go_ret
  refine ⟨rfl, { f with v := .slice ap n c, b := f.b.take n, sy := n }, rfl, rfl, rfl, (Evolves.of_below HD.out hb).trans (Evolves.upd H1.out ((Touch.set _ _ _ (by simp [Fil.blocks])).trans (Touch.set _ _ _ (by simp [Fil.blocks])) (fun x h => .inl h)) ⟨?_, ?_, by simp; omega⟩ rfl rfl ?_ ?_)⟩
  · rw [setCell_block (setCell_block HF.out.cell _ _)]; simp
  · have ho := HF.out.own
    rw [HV.out] at ho
    have ho := ownsRow_take ho hn
    simp only [List.length_take, Nat.min_eq_left hn, List.map_take]
    refine ownsRow_at ho (fun k hk => (Below.heap_setCell _ _ _ _ ?_).trans (Below.heap_setCell _ _ _ _ ?_)) <;> exact own_ne H1.out (by rw [HV.out, ownBlock_slice]; rw [ownBlock_slice] at hk; exact hk)
  · intro k hk
    rw [HV.out, ownBlock_slice]; simp only [ownBlock_slice] at hk; exact .inl hk
  · have := H1.out.roomy
    rw [total_split] at this ⊢
    simp; omega
theorem cut_no {w : World} {bd bm room : Nat} {fs : List Fil} (f : Fil) (hf : f ∈ fs) (D : DiskAt w bd bm room fs) (s : ByteArray) (hs : f.name = s) (n : Nat) (hn : f.b.length < n) :
    Calls Tryz.prog 83 #[.pointer (some ⟨bd, 0, none⟩), .string s, .int .i64 n] w fun e w' => e = .returned (.int .i64 1) ∧ Below w.heap.size w w' := by
  have HD := Lib.hid D
  have HS := Lib.hid hs
  clear D hs
  go_enter Tryz.func83, Tryz.ntmps83
  go_wp2_with fail
  refine (find_some HD.out f hf s HS.out).mono ?_
  rintro e w1 ⟨rfl, hb⟩
  have F := (HD.out.below hb).files f hf
  obtain ⟨ap, c, hv, -, -, -⟩ := F.slice
  have hc := cell_of F.cell 0
  simp only [List.getElem?_toArray, List.getElem?_cons_zero, hv] at hc
  have d1 : decide ((n : Int) < 0) = false := by simp
  have d2 : decide (f.b.length < n) = true := by simp; omega
  clear hv F
  go_wp2
  go_ret
  exact ⟨rfl, hb⟩
theorem cut_none {w : World} {bd bm room : Nat} {fs : List Fil} (D : DiskAt w bd bm room fs) (s : ByteArray) (hG : Good s) (hs : ∀ f ∈ fs, f.name ≠ s) (n : Nat) :
    Calls Tryz.prog 83 #[.pointer (some ⟨bd, 0, none⟩), .string s, .int .i64 n] w fun e w' => e = .returned (.int .i64 3) ∧ Below w.heap.size w w' := by
  have HD := Lib.hid D
  have HS := Lib.hid hs
  clear D hs
  go_enter Tryz.func83, Tryz.ntmps83
  go_wp2_with fail
  refine (find_none HD.out s hG HS.out).mono ?_
  rintro e w1 ⟨rfl, hb⟩
  have d1 : decide ((n : Int) < 0) = false := by simp
  go_wp2
  go_ret
  exact ⟨rfl, hb⟩
end Go.Proofs.YtcioejacijkbcaaGreatDoor.Vd
