/- The segment law: a segment and the list of its batches' texts, side by side. -/
import Derived.Test.YtnhemmjbodhjeaaGreatSgU
namespace Go.Proofs.YtnhemmjbodhjeaaGreat.Sg
open Go.RowKit Go.Maps Go.ChangeMaps Go.WideMaps Go.Proofs.YtnhemmjbodhjeaaGreat.Vd Go.Proofs.YtnhemmjbodhjeaaGreat.Rc Go.Proofs.YtnhemmjbodhjeaaGreat.Ba Go.Proofs.YtnhemmjbodhjeaaGreat.Rf
set_option linter.unusedVariables false
theorem SegAt.kept {w w' : World} {bs bd bm room : Nat} {name : ByteArray} {base : Nat} {fs : List Fil} {xs : List Bat} {mv : Value} (h : SegAt w bs bd bm room name base fs xs mv) (hb : ∀ k, (k = bs ∨ mv.ownBlock = some k ∨ DiskB bd bm fs k) → w'.heap[k]? = w.heap[k]?) : SegAt w' bs bd bm room name base fs xs mv :=
  ⟨h.disk.kept fun k hk => hb k (.inr (.inr hk)), ⟨(hb bs (.inl rfl)).trans h.seg.cell, Vd.ownsRow_at h.seg.own fun k hk => hb k (.inr (.inl hk))⟩, h.chain, h.good, h.file, h.apart⟩
/-- a segment that has xs, and a list that has ys -/
structure Both (w0 w : World) (bs bd bm room : Nat) (name : ByteArray) (base : Nat) (fs : List Fil) (xs : List Bat) (mv : Value) (ys : List Bat) (v : Value) : Prop where
  seg : SegOwn w0 w bs bd bm room name base fs xs mv
  txt : Texts w w0.heap.size v ys
  apart : ∀ k, v.ownBlock = some k → ¬ (k = bs ∨ mv.ownBlock = some k ∨ DiskB bd bm fs k)
section
variable {w0 w w' : World} {bs bd bm room : Nat} {name : ByteArray} {base : Nat} {fs : List Fil} {xs : List Bat} {mv : Value} {ys : List Bat} {v : Value}
theorem Both.more (h : Both w0 w bs bd bm room name base fs xs mv ys v) (hb : Below w.heap.size w w') : Both w0 w' bs bd bm room name base fs xs mv ys v :=
  ⟨h.seg.more hb, h.txt.below hb, h.apart⟩
theorem Both.start (h : SegOwn w0 w bs bd bm room name base fs xs mv) : Both w0 w bs bd bm room name base fs xs mv [] (.slice none 0 0) :=
  ⟨h, Texts.nil _ _, fun k hk => by cases hk⟩
theorem both_append (h : Both w0 w bs bd bm room name base fs xs mv ys v) (x : Bat) (hx : x.Ok) (hb : x.b = endOf base xs) (hr : (text xs).length + x.l.length ≤ room) :
    Calls Tryz.prog 20 #[.pointer (some ⟨bs, 0, none⟩), .string (Bt.str x.l)] w fun e w' => e = .returned (.int .i64 0) ∧ ∃ fs' mv', Both w0 w' bs bd bm room name base fs' (xs ++ [x]) mv' ys v := by
  refine (seg_append h.seg.at' x hx hb (Bt.str x.l) (Bt.str_data _) (by rw [Bt.str_size]; exact hr)).mono ?_
  rintro e w' ⟨rfl, fs', mv', hS, hT, hN⟩
  have hF : ∀ k, (k = bs ∨ mv.ownBlock = some k ∨ DiskB bd bm fs k) → w0.heap.size ≤ k := by
    rintro k (rfl | hk | hk)
    · exact h.seg.bs
    · exact h.seg.mv k hk
    · exact h.seg.disk k hk
  have hlt := World.ownsRow.lt h.txt
  refine ⟨rfl, fs', mv', ⟨hS, h.seg.below.trans (hT.below h.seg.below.size hF), h.seg.bs, ?_, ?_⟩, ?_, ?_⟩
  · intro k hk
    rcases hN k (.inl hk) with h1 | h1 | h1
    · exact h.seg.disk k h1
    · exact h.seg.mv k h1
    · exact Nat.le_trans h.seg.below.size h1
  · intro k hk
    rcases hN k (.inr hk) with h1 | h1 | h1
    · exact h.seg.disk k h1
    · exact h.seg.mv k h1
    · exact Nat.le_trans h.seg.below.size h1
  · exact h.txt.same fun k hk => hT.block k (hlt k hk).2 (h.apart k hk)
  · intro k hk hc
    have hk1 := (hlt k hk).2
    have hno := h.apart k hk
    rcases hc with hc | hc | hc
    · exact hno (.inl hc)
    · rcases hN k (.inr hc) with h1 | h1 | h1
      · exact hno (.inr (.inr h1))
      · exact hno (.inr (.inl h1))
      · omega
    · rcases hN k (.inl hc) with h1 | h1 | h1
      · exact hno (.inr (.inr h1))
      · exact hno (.inr (.inl h1))
      · omega
/-- the list grows -/
theorem Both.grow (h : Both w0 w bs bd bm room name base fs xs mv ys v) {v' : Value} {zs : List Bat} (hT : Texts w' w0.heap.size v' zs) (hG : w.grownBy w' v.ownBlock) (hv : v'.ownBlock = v.ownBlock ∨ v'.ownBlock = some w.heap.size) :
    Both w0 w' bs bd bm room name base fs xs mv zs v' := by
  have hS := h.seg.at'
  have hltS : ∀ k, (k = bs ∨ mv.ownBlock = some k ∨ DiskB bd bm fs k) → k < w.heap.size := by
    rintro k (rfl | hk | hk)
    · exact Vd.lt_of_heap hS.seg.cell
    · exact (World.ownsRow.lt hS.seg.own k hk).2
    · exact hS.disk.lt k hk
  have hlt := World.ownsRow.lt h.txt
  refine ⟨⟨hS.kept fun k hk => hG.block k (hltS k hk) (fun e => h.apart k e.symm hk), ?_, h.seg.bs, h.seg.disk, h.seg.mv⟩, hT, ?_⟩
  · exact h.seg.below.grown hG h.seg.below.size (fun k hk => (hlt k hk).1)
  · intro k hk hc
    rcases hv with e | e
    · exact h.apart k (by rw [← e]; exact hk) hc
    · rw [hk] at e
      cases e
      exact Nat.lt_irrefl _ (hltS _ hc)
end
theorem infoStr : ((Tryz.prog.info? 9).map fun i => (i.zero, i.size, i.bytes)) = some (some (.string ⟨#[]⟩), 1, 16) := by kernel_rfl
/-- one text more -/
theorem wpList_append_text {w : World} {ops : Array Oper} {rest : List Oper} {o : Oper} {a : Act} {Q : Exit → Act → World → Prop} (hgd : o.guard = none) (s x : Operand)
    (ho : o.op = .call { callee := .builtin .append, args := #[s, x], argTypes := #[33, 33] })
    (base : Nat) (v : Value) (ys : List Bat) (hs : a.eval s = v) (hown : Texts w base v ys)
    (b : Nat) (r : Bat) (hx : a.eval x = .slice (some ⟨b, 0, none⟩) 1 1) (hc : w.heap[b]? = some (.cells #[.string (Bt.str r.l)] 9 (0, 0))) (hsz : ys.length ≤ 1048576) (hbase : base ≤ w.heap.size)
    (h : ∀ v' w', Texts w' base v' (ys ++ [r]) → w.grownBy w' v.ownBlock → (v'.ownBlock = v.ownBlock ∨ v'.ownBlock = some w.heap.size) → wpList Tryz.prog ops Q rest (a.put o.dst v') w') :
    wpList Tryz.prog ops Q (o :: rest) a w := by
  obtain ⟨i0, hi, hz0, hz1, hz2⟩ := info_parts infoStr
  refine wpList_append_own_at _ hgd s x 33 ho base 9 i0 _ 1 16 Tryz.underlying33 hi hz0 hz1 hz2 rfl (by decide) v ys.length (ys.map fun (y : Bat) => Value.string (Bt.str y.l)) hs hown ⟨b, 0, none⟩ 1 1 [.string (Bt.str r.l)] hx rfl ?_ ?_ (by unfold maxLen; omega) (by omega) hbase ?_
  · intro j u hu
    rw [add0, cell_of_row _ _ _ _ _ _ hc]
    have : j < 1 := (List.getElem?_eq_some_iff.1 hu).1
    rw [← hu]
    simp
  · intro u hu; simp at hu; subst hu; rfl
  · intro v' w' h1 h2 _ h4
    exact h v' w' (by simpa [Texts] using h1) h2 h4
/-- bytes that lack the last one are refused -/
theorem cut_short (x : Bat) (h : x.Ok) : headErr (x.l.take (x.l.length - 1)) = 5 := by
  have hn := h.nums
  have hl := h.len
  have e2 : (x.l.take (x.l.length - 1)).take 2 = x.l.take 2 := by rw [List.take_take, Nat.min_eq_left (by omega)]
  have e4 : ((x.l.take (x.l.length - 1)).drop 2).take 4 = (x.l.drop 2).take 4 := by rw [List.drop_take, List.take_take, Nat.min_eq_left (by omega)]
  have hnv : nv (x.l.take (x.l.length - 1)) 2 4 = ((x.l.length - 10 : Nat) : Int) := by
    rw [(nv_small _ 2 4 (by decide)).2.2, e4, hn.n2]
  have hlen : (x.l.take (x.l.length - 1)).length = x.l.length - 1 := by rw [List.length_take, Nat.min_eq_left (by omega)]
  have hf : front (x.l.take (x.l.length - 1)) = true := by
    unfold front
    rw [hnv, e2, hn.front]
    simp only [Bool.and_eq_true, decide_eq_true_eq]
    refine ⟨trivial, ?_, ?_⟩ <;> omega
  unfold headErr
  rw [if_neg (by rw [hlen]; omega), if_neg (by rw [hf]; decide), if_pos (by rw [hlen, hnv]; omega)]
end Go.Proofs.YtnhemmjbodhjeaaGreat.Sg
