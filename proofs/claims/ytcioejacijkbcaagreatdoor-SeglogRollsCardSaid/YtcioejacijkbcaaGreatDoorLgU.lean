/- two logs side by side, and a slice of integers. -/
import Derived.Test.YtcioejacijkbcaaGreatDoorLgJ
import Derived.Test.YtcioejacijkbcaaGreatDoorOpens2
import Derived.Deep.Cut
set_option linter.unusedSimpArgs false
namespace Go.Proofs.YtcioejacijkbcaaGreatDoor.Lg
open Go.RowKit Go.Maps Go.ChangeMaps Go.WideMaps Go.Proofs.YtcioejacijkbcaaGreatDoor.Vd Go.Proofs.YtcioejacijkbcaaGreatDoor.Rc Go.Proofs.YtcioejacijkbcaaGreatDoor.Rg Go.Proofs.YtcioejacijkbcaaGreatDoor.Sg
set_option linter.unusedVariables false
/-- all blocks of a log and of its disk -/
def Foot (bl bd bm : Nat) (fs : List Fil) (v : Value) (ps : List Prt) (k : Nat) : Prop := k ∈ own bl v ps ∨ DiskB bd bm fs k
def No : Nat → Prop := fun _ => False
section
variable {w0 w w' : World} {F0 : Nat → Prop} {bl bd bm room limit bl' bd' bm' limit' : Nat} {fs fs' fs2 : List Fil} {v v' v2 : Value} {ps ps' ps2 : List Prt}
theorem LogAt.footLt (h : LogAt w0 F0 w bl bd bm room limit fs v ps) (k : Nat) (hk : Foot bl bd bm fs v ps k) : k < w.heap.size := by
  rcases hk with hk | hk
  · exact h.lt k hk
  · exact h.disk.lt k hk
theorem LogAt.rebase (h : LogAt w0 F0 w bl bd bm room limit fs v ps) : LogAt w (Foot bl bd bm fs v ps) w bl bd bm room limit fs v ps :=
  ⟨h.disk, h.cell, h.row, h.part, h.bases, h.nodup, h.apart, h.dsk, fun k hk => .inl hk, Vd.Touch.refl _ _, h.tabAt, fun hF => by
    rcases h.ge _ hF with h1 | h1
    · exact h.tab.2 h1
    · have := h.tab.1.lt; omega⟩
theorem LogAt.unbase (h : LogAt w0 F0 w bl bd bm room limit fs v ps) (h' : LogAt w (Foot bl bd bm fs v ps) w' bl bd bm room limit fs' v' ps') : LogAt w0 F0 w' bl bd bm room limit fs' v' ps' :=
  ⟨h'.disk, h'.cell, h'.row, h'.part, h'.bases, h'.nodup, h'.apart, h'.dsk, fun k hk => by
    rcases h'.ge k hk with h1 | h1
    · exact h.ge k h1
    · exact .inr (Nat.le_trans h.below.size h1), h.below.trans h'.below (fun x hx => h.ge x hx), h.tab⟩
theorem LogAt.low {w1 : World} (h : LogAt w1 No w bl bd bm room limit fs v ps) (hb : Below w0.heap.size w0 w1) (hT : Tab w0) : LogAt w0 No w bl bd bm room limit fs v ps :=
  ⟨h.disk, h.cell, h.row, h.part, h.bases, h.nodup, h.apart, h.dsk, fun k hk => by
    rcases h.ge k hk with h1 | h1
    · exact h1.elim
    · exact .inr (Nat.le_trans hb.size h1), (Vd.Touch.ofBelow (F := No) hb).trans h.below (fun x hx => hx.elim), hT, fun h => h⟩
theorem LogAt.belowNo (h : LogAt w0 No w bl bd bm room limit fs v ps) : Below w0.heap.size w0 w := h.below.below (Nat.le_refl _) (fun _ h => h.elim)
end
/-- integers in a slice of their own -/
def Nums (w : World) (B : Nat) (v : Value) (bs : List Nat) : Prop := w.ownsRow B 3 1 v bs.length (bs.map fun b : Nat => Value.int .i64 b)
/-- two logs and a slice -/
structure Logs (w0 w : World) (bl bd bm limit : Nat) (fs : List Fil) (v : Value) (ps : List Prt) (bl' bd' bm' limit' : Nat) (fs2 : List Fil) (v2 : Value) (ps2 : List Prt) (bv : Value) (bs : List Nat) : Prop where
  a : LogAt w0 No w bl bd bm 4194304 limit fs v ps
  b : LogAt w0 No w bl' bd' bm' 4194304 limit' fs2 v2 ps2
  nums : Nums w w0.heap.size bv bs
  apart : ∀ k, Foot bl bd bm fs v ps k → ¬ Foot bl' bd' bm' fs2 v2 ps2 k
  off : ∀ k, bv.ownBlock = some k → ¬ Foot bl bd bm fs v ps k ∧ ¬ Foot bl' bd' bm' fs2 v2 ps2 k
section
variable {w0 w w' : World} {bl bd bm limit bl' bd' bm' limit' : Nat} {fs fs' fs2 : List Fil} {v v' v2 : Value} {ps ps' ps2 : List Prt} {bv bv' : Value} {bs bs' : List Nat}
theorem Logs.more (L : Logs w0 w bl bd bm limit fs v ps bl' bd' bm' limit' fs2 v2 ps2 bv bs) (hb : Below w.heap.size w w') : Logs w0 w' bl bd bm limit fs v ps bl' bd' bm' limit' fs2 v2 ps2 bv bs :=
  ⟨L.a.more hb, L.b.more hb, Vd.ownsRow_at L.nums fun k hk => hb.block k (World.ownsRow.lt L.nums k hk).2, L.apart, L.off⟩
theorem Logs.opA (L : Logs w0 w bl bd bm limit fs v ps bl' bd' bm' limit' fs2 v2 ps2 bv bs) (h : LogAt w (Foot bl bd bm fs v ps) w' bl bd bm 4194304 limit fs' v' ps') : Logs w0 w' bl bd bm limit fs' v' ps' bl' bd' bm' limit' fs2 v2 ps2 bv bs := by
  have hB : ∀ k, Foot bl' bd' bm' fs2 v2 ps2 k → w'.heap[k]? = w.heap[k]? := fun k hk => h.below.block k (L.b.footLt k hk) (fun hf => L.apart k hf hk)
  have hnew : ∀ k, Foot bl bd bm fs' v' ps' k → Foot bl bd bm fs v ps k ∨ w.heap.size ≤ k := fun k hk => h.ge k hk
  refine ⟨L.a.unbase h, L.b.kept hB (L.b.below.trans h.below (fun x hx => L.a.ge x hx)), Vd.ownsRow_at L.nums fun k hk => h.below.block k (World.ownsRow.lt L.nums k hk).2 (L.off k hk).1, ?_, ?_⟩
  · intro k hk hk2
    rcases hnew k hk with h1 | h1
    · exact L.apart k h1 hk2
    · have := L.b.footLt k hk2; omega
  · intro k hk
    refine ⟨fun hf => ?_, (L.off k hk).2⟩
    rcases hnew k hf with h1 | h1
    · exact (L.off k hk).1 h1
    · have := (World.ownsRow.lt L.nums k hk).2; omega
theorem Logs.opB (L : Logs w0 w bl bd bm limit fs v ps bl' bd' bm' limit' fs2 v2 ps2 bv bs) (h : LogAt w (Foot bl' bd' bm' fs2 v2 ps2) w' bl' bd' bm' 4194304 limit' fs' v' ps') : Logs w0 w' bl bd bm limit fs v ps bl' bd' bm' limit' fs' v' ps' bv bs := by
  have hA : ∀ k, Foot bl bd bm fs v ps k → w'.heap[k]? = w.heap[k]? := fun k hk => h.below.block k (L.a.footLt k hk) (fun hf => L.apart k hk hf)
  have hnew : ∀ k, Foot bl' bd' bm' fs' v' ps' k → Foot bl' bd' bm' fs2 v2 ps2 k ∨ w.heap.size ≤ k := fun k hk => h.ge k hk
  refine ⟨L.a.kept hA (L.a.below.trans h.below (fun x hx => L.b.ge x hx)), L.b.unbase h, Vd.ownsRow_at L.nums fun k hk => h.below.block k (World.ownsRow.lt L.nums k hk).2 (L.off k hk).2, ?_, ?_⟩
  · intro k hk hk2
    rcases hnew k hk2 with h1 | h1
    · exact L.apart k hk h1
    · have := L.a.footLt k hk; omega
  · intro k hk
    refine ⟨(L.off k hk).1, fun hf => ?_⟩
    rcases hnew k hf with h1 | h1
    · exact (L.off k hk).2 h1
    · have := (World.ownsRow.lt L.nums k hk).2; omega
theorem Logs.grow (L : Logs w0 w bl bd bm limit fs v ps bl' bd' bm' limit' fs2 v2 ps2 bv bs) (hN : Nums w' w0.heap.size bv' bs') (hg : w.grownBy w' bv.ownBlock) (hv : ∀ k, bv'.ownBlock = some k → bv.ownBlock = some k ∨ w.heap.size ≤ k) : Logs w0 w' bl bd bm limit fs v ps bl' bd' bm' limit' fs2 v2 ps2 bv' bs' := by
  have hA : ∀ k, Foot bl bd bm fs v ps k → w'.heap[k]? = w.heap[k]? := fun k hk => hg.block k (L.a.footLt k hk) (fun e => (L.off k e.symm).1 hk)
  have hB : ∀ k, Foot bl' bd' bm' fs2 v2 ps2 k → w'.heap[k]? = w.heap[k]? := fun k hk => hg.block k (L.b.footLt k hk) (fun e => (L.off k e.symm).2 hk)
  have ht := Vd.Touch.grown hg
  have hge : ∀ x, bv.ownBlock = some x → No x ∨ w0.heap.size ≤ x := fun x hx => .inr (World.ownsRow.lt L.nums x hx).1
  refine ⟨L.a.kept hA (L.a.below.trans ht hge), L.b.kept hB (L.b.below.trans ht hge), hN, L.apart, ?_⟩
  intro k hk
  rcases hv k hk with h1 | h1
  · exact L.off k h1
  · exact ⟨fun hf => by have := L.a.footLt k hf; omega, fun hf => by have := L.b.footLt k hf; omega⟩
theorem Logs.start {w1 : World} (hA : LogAt w0 No w1 bl bd bm 4194304 limit fs v ps) (hB : LogAt w1 No w bl' bd' bm' 4194304 limit' fs2 v2 ps2) (hT : Tab w0) : Logs w0 w bl bd bm limit fs v ps bl' bd' bm' limit' fs2 v2 ps2 (.slice none 0 0) [] := by
  refine ⟨hA.more hB.belowNo, hB.low hA.belowNo hT, World.ownsRow_nil _ _ _ _, ?_, fun k hk => by cases hk⟩
  intro k hk hk2
  have h1 := hA.footLt k hk
  rcases hB.ge k hk2 with h2 | h2
  · exact h2
  · omega
end
end Go.Proofs.YtcioejacijkbcaaGreatDoor.Lg
/- SeglogRolls: what a round does to both logs. -/
set_option linter.unusedSimpArgs false
namespace Go.Proofs.YtcioejacijkbcaaGreatDoor.Lg
open Go.RowKit Go.Maps Go.ChangeMaps Go.WideMaps Go.Proofs.YtcioejacijkbcaaGreatDoor.Vd Go.Proofs.YtcioejacijkbcaaGreatDoor.Rc Go.Proofs.YtcioejacijkbcaaGreatDoor.Rg Go.Proofs.YtcioejacijkbcaaGreatDoor.Sg
set_option linter.unusedVariables false
/-- a log that rolls at each batch, behind k batches -/
structure ShA (k : Nat) (fs : List Fil) (qs : List Prt) (p : Prt) (E : Nat) (bs : List Nat) : Prop where
  e : endOf p.base p.xs = E
  e8 : E ≤ 8 * k
  len : bs.length = k
  shape : (k = 0 ∧ qs = [] ∧ p.base = 0 ∧ p.xs = []) ∨ (1 ≤ k ∧ bs = (qs ++ [p]).map Prt.base ∧ 39 ≤ (text p.xs).length ∧ (∀ r ∈ qs ++ [p], r.base < E) ∧ ∃ l, look fs (nm p.base) = some l)
  fresh : look fs fresh = none
  no : ∀ u, E ≤ u → u < 500 → look fs (nm u) = none
  tot : total fs ≤ 4 + k * 34100
  few : fs.length ≤ 1 + 2 * k
/-- a log of one segment, behind k batches -/
structure ShB (k : Nat) (fs : List Fil) (q : Prt) (E : Nat) : Prop where
  e : endOf q.base q.xs = E
  xs : q.xs.length = k
  tx : (text q.xs).length ≤ k * 33639
  tot : total fs ≤ 4 + k * 33639
  few : fs.length ≤ 1 + k
theorem endOf_snoc' (b : Nat) (xs : List Sg.Bat) (x : Sg.Bat) : endOf b (xs ++ [x]) = endOf b xs + x.c := endOf_snoc b xs x
section
variable {w0 w w' : World} {bl bd bm bl' bd' bm' limit' : Nat} {fs fs2 : List Fil} {v v2 bv : Value} {qs ps2 : List Prt} {p q : Prt} {bs bs' : List Nat} {k E : Nat}
theorem app_a (L : Logs w0 w bl bd bm 1 fs v (qs ++ [p]) bl' bd' bm' limit' fs2 v2 ps2 bv bs') (S : ShA k fs qs p E bs) (hk : k < 60) (z : Sg.Bat) (hz : z.Ok) (hzb : z.b = E) (hz1 : 1 ≤ z.c) (hz2 : z.c ≤ 8) (hz3 : z.l.length ≤ 33639) :
    Calls Tryz.prog 9 #[.pointer (some ⟨bl, 0, none⟩), .string (Bt.str z.l)] w fun e w' => e = .returned (.int .i64 0) ∧ ∃ fs' v' qs' p', Logs w0 w' bl bd bm 1 fs' v' (qs' ++ [p']) bl' bd' bm' limit' fs2 v2 ps2 bv bs' ∧ ShA (k + 1) fs' qs' p' (E + z.c) (bs ++ [E]) := by
  have hk34 : k * 34100 ≤ 59 * 34100 := Nat.mul_le_mul_right _ (by omega)
  have hk1 : (k + 1) * 34100 = k * 34100 + 34100 := by omega
  have htot := S.tot
  have hfew := S.few
  have he8 := S.e8
  have hlen := S.len
  rcases S.shape with ⟨rfl, rfl, hpb, hpx⟩ | ⟨h1, hbs, h39, hlt, l, hl⟩
  · have htot' : total fs ≤ 4 := by simpa using htot
    have hfew' : fs.length ≤ 1 := by simpa using hfew
    clear htot hfew hk34 hk1
    have hE : E = 0 := by omega
    subst hE
    have hb0 : bs = [] := List.length_eq_zero_iff.1 hlen
    subst hb0
    refine (l_app_in (qs := []) (p := p) L.a.rebase z hz (by rw [hzb]; exact S.e.symm) (by simp) (by rw [hpx]; simp [text]) (by decide) (by rw [hpx]; simp) (by omega) (by omega)).mono ?_
    rintro e w' ⟨rfl, fs', mv', hL, k1, k2, k3, k4⟩
    refine ⟨rfl, fs', v, [], p.more z mv', L.opA hL, ?_⟩
    have htx : text (p.xs ++ [z]) = z.l := by rw [hpx]; simp [text]
    have hzl := hz.len.1
    refine ⟨?_, by omega, by simp, .inr ⟨by omega, ?_, ?_, ?_, _, k2⟩, ?_, ?_, by simp only [Nat.zero_add, Nat.one_mul]; omega, by simp only [Nat.zero_add, Nat.mul_one]; omega⟩
    · show endOf p.base (p.xs ++ [z]) = _
      rw [endOf_snoc, S.e]
    · simp [Prt.more, hpb]
    · show 39 ≤ (text (p.xs ++ [z])).length
      rw [htx]; exact hzl
    · intro r hr
      simp only [List.nil_append, List.mem_singleton] at hr
      subst hr
      show p.base < _
      omega
    · rw [k1 _ (nm_ne p.base).2.symm]; exact S.fresh
    · intro u hu hu5
      rw [k1 _ (nm_inj (by omega) (by omega) (by omega))]
      exact S.no u (by omega) hu5
  · have hlq : (qs ++ [p]).length = k := by rw [← hlen, hbs]; simp
    refine (l_app_roll (qs := qs) (p := p) L.a.rebase z hz (by rw [hzb]; exact S.e.symm) (by omega) (by omega) (by decide) E S.e (by omega) (fun hm => by
      obtain ⟨r, hr, hrE⟩ := List.mem_map.1 hm
      have := hlt r hr
      omega) (S.no E (Nat.le_refl _) (by omega)) S.fresh l hl (by omega) (by rw [hlq]; omega)).mono ?_
    rintro e w' ⟨rfl, fs', v', b, mv', hL, k1, k2, k3, k4, k5⟩
    rw [hlq] at k4
    have hzl := hz.len.1
    refine ⟨rfl, fs', v', qs ++ [p], (Prt.mk b E [] (.slice none 0 0)).more z mv', L.opA hL, ?_⟩
    refine ⟨?_, by omega, by simp [hlen], .inr ⟨by omega, ?_, ?_, ?_, _, k2⟩, k1, ?_, by omega, by omega⟩
    · show endOf E ([] ++ [z]) = _
      simp [endOf]
    · rw [hbs]; simp [Prt.more]
    · show 39 ≤ (text [z]).length
      simp [text]; omega
    · intro r hr
      rcases List.mem_append.1 hr with hr | hr
      · have := hlt r hr; omega
      · simp only [List.mem_singleton] at hr
        subst hr
        show E < _
        omega
    · intro u hu hu5
      rw [k3 _ (nm_ne u).1 (nm_ne u).2 (nm_inj (by omega) (by omega) (by omega))]
      exact S.no u (by omega) hu5
theorem app_b (L : Logs w0 w bl bd bm limit' fs v qs bl' bd' bm' 16777216 fs2 v2 [q] bv bs') (S : ShB k fs2 q E) (hk : k < 60) (z : Sg.Bat) (hz : z.Ok) (hzb : z.b = E) (hz3 : z.l.length ≤ 33639) :
    Calls Tryz.prog 9 #[.pointer (some ⟨bl', 0, none⟩), .string (Bt.str z.l)] w fun e w' => e = .returned (.int .i64 0) ∧ ∃ fs' q', Logs w0 w' bl bd bm limit' fs v qs bl' bd' bm' 16777216 fs' v2 [q'] bv bs' ∧ ShB (k + 1) fs' q' (E + z.c) := by
  have hk34 : k * 33639 ≤ 59 * 33639 := Nat.mul_le_mul_right _ (by omega)
  have hk1 : (k + 1) * 33639 = k * 33639 + 33639 := by omega
  have htot := S.tot
  have hfew := S.few
  have htx := S.tx
  have hxs := S.xs
  refine (l_app_in (qs := []) (p := q) L.b.rebase z hz (by rw [hzb]; exact S.e.symm) (by simp) (by omega) (by decide) (by omega) (by omega) (by omega)).mono ?_
  rintro e w' ⟨rfl, fs', mv', hL, k1, k2, k3, k4⟩
  refine ⟨rfl, fs', q.more z mv', L.opB hL, ?_, ?_, ?_, by omega, by omega⟩
  · show endOf q.base (q.xs ++ [z]) = _
    rw [endOf_snoc, S.e]
  · show (q.xs ++ [z]).length = _
    simp [hxs]
  · show (text (q.xs ++ [z])).length ≤ _
    rw [text_snoc, List.length_append]
    omega
end
end Go.Proofs.YtcioejacijkbcaaGreatDoor.Lg
/- SeglogRolls returns true, whatever its arguments are. No condition. -/
set_option linter.unusedSimpArgs false
namespace Go.Proofs.YtcioejacijkbcaaGreatDoor.Lg
open Go.RowKit Go.Maps Go.ChangeMaps Go.WideMaps Go.Proofs.YtcioejacijkbcaaGreatDoor.Vd Go.Proofs.YtcioejacijkbcaaGreatDoor.Rc Go.Proofs.YtcioejacijkbcaaGreatDoor.Rg Go.Proofs.YtcioejacijkbcaaGreatDoor.Sg Go.Proofs.YtcioejacijkbcaaGreatDoor.Opens
set_option linter.unusedVariables false
def RollRel (w0 : World) (n : Nat) (bl bd bm bl' bd' bm' : Nat) (bv i : Value) (wr : World) : Prop := ∃ (k E : Nat) (fs : List Fil) (v : Value) (qs : List Prt) (p : Prt) (fs2 : List Fil) (v2 : Value) (q : Prt) (bs : List Nat),
  i = .int .i64 k ∧ k ≤ n ∧ Logs w0 wr bl bd bm 1 fs v (qs ++ [p]) bl' bd' bm' 16777216 fs2 v2 [q] bv bs ∧ ShA k fs qs p E bs ∧ ShB k fs2 q E
theorem Nums.form {w : World} {B : Nat} {v : Value} {bs : List Nat} (h : Nums w B v bs) : ∃ ap cap, v = .slice ap bs.length cap := by
  rcases h.2 with ⟨rfl, h0⟩ | ⟨g, cap, cur, rfl, _⟩
  · exact ⟨none, 0, by rw [h0]⟩
  · exact ⟨_, cap, rfl⟩
theorem Nums.cell {w : World} {B cap : Nat} {ap : Option Addr} {bs : List Nat} (h : Nums w B (.slice ap bs.length cap) bs) (i : Nat) (hi : i < bs.length) : ∃ g, ap = some ⟨g, 0, none⟩ ∧ w.cell? ⟨g, i, none⟩ = some (.int .i64 bs[i]) := by
  obtain ⟨g, c, hv, _, _⟩ := World.ownsRow.form h (by omega)
  cases hv
  refine ⟨g, rfl, ?_⟩
  have := World.ownsRow.cellAt (g := g) h i (by omega)
  rw [this]
  simp [hi]
set_option maxRecDepth 100000 in
set_option maxHeartbeats 4000000 in
theorem walk_rolls (ap : Option Addr) (cap : Nat) (ss : List Rcp) (w : World) (hR : RcpsAt w ap ss) (hT : Tab w) :
    Calls Tryz.prog 3 #[.slice ap ss.length cap] w fun e w' => e = .returned (.bool true) ∧ Below w.heap.size w w' := by
  have HR := Lib.hid hR
  have HT := Lib.hid hT
  clear hR hT
  obtain ⟨i0, hi, hz0, hz1, hz2⟩ := Bt.info_parts infoI
  have HI := Lib.hid (And.intro hi (And.intro hz0 (And.intro hz1 hz2)))
  clear hi hz0 hz1 hz2
  go_enter Tryz.func3, Tryz.ntmps3
  go_wp2_with fail
  refine (l_begun w 1 (by decide) (by decide) HT.out).mono ?_
  rintro e w1 ⟨bd, bm, bl, b, v, fs, rfl, hA, f1, f2, f3, f4⟩
  have HA := Lib.hid hA
  have HFA := Lib.hid (And.intro f1 (And.intro f2 (And.intro f3 f4)))
  clear hA f1 f2 f3 f4
  go_wp2_with fail
  refine (l_begun w1 16777216 (by decide) (by decide) (HT.out.below HA.out.belowNo)).mono ?_
  rintro e w2 ⟨bd', bm', bl', b', v', fs', rfl, hB, f1, f2, f3, f4⟩
  have HL2 := Lib.hid (Logs.start HA.out hB HT.out)
  have HFB := Lib.hid (And.intro f3 f4)
  clear hB f1 f2 f3 f4
  by_cases h60 : 60 < (ss.length : Int)
  · go_wp2_with fail
    refine (awake _ (HL2.out.a.tabAt)).mono ?_
    rintro e w3 ⟨rfl, hb3⟩
    go_wp2
    go_ret
    exact ⟨rfl, HL2.out.a.belowNo.trans (hb3.mono HL2.out.a.belowNo.size)⟩
  · have H60 := Lib.hid h60
    go_wp2_with fail
    clear h60
    go_loopw [9, 10] (fun bv i wr => RollRel w ss.length bl bd bm bl' bd' bm' bv i wr) (fun _ i _ => ss.length - (intOf i).toNat)
    case atStart =>
      refine ⟨0, 0, fs, v, [], P0 b, fs', v', P0 b', [], rfl, by omega, HL2.out, ⟨rfl, by omega, rfl, .inl ⟨rfl, rfl, rfl, rfl⟩, HFA.out.1, ?_, by have := HFA.out.2.2.1; omega, by have := HFA.out.2.2.2; omega⟩, ⟨rfl, rfl, Nat.zero_le _, by have := HFB.out.1; omega, by have := HFB.out.2; omega⟩⟩
      intro u _ hu
      exact HFA.out.2.1 _ (nm_ne u).1
    case round =>
      obtain ⟨k, E, fs, v, qs, p, fs2, v2, q, bs, rfl, hk, hL, hS, hS2⟩ := hrel
      have HL := Lib.hid hL
      have HS := Lib.hid hS
      have HS2 := Lib.hid hS2
      obtain ⟨bap, bcap, rfl⟩ := hL.nums.form
      have HN := Lib.hid (show (qs ++ [p]).length ≤ 61 from by
        rcases hS.shape with ⟨_, h2, _⟩ | ⟨_, h2, _⟩
        · rw [h2]; simp
        · have := congrArg List.length h2
          rw [hS.len, List.length_map] at this
          have := H60.out
          omega)
      clear hL hS hS2
      by_cases hlt : k < ss.length
      · have hlt' : (k : Int) < (ss.length : Int) := by omega
        have hk0 : (0 : Int) ≤ (k : Int) := by omega
        obtain ⟨a, hap, hab, r0, r1, r2, r3, r4⟩ := (HR.out.below HL.out.a.belowNo) k hlt
        subst hap
        obtain ⟨y, hy⟩ : ∃ y, y = ss[k] := ⟨_, rfl⟩
        rw [← hy] at r0 r1 r2 r3 r4
        clear hy
        by_cases hv : (200 : Int) < (y.v.size : Int)
        · go_wp2_with fail
          refine (awake _ HL.out.a.tabAt).mono ?_
          rintro e w3 ⟨rfl, hb3⟩
          go_wp2
          go_ret
          exact ⟨rfl, HL.out.a.belowNo.trans (hb3.mono HL.out.a.belowNo.size)⟩
        · have HV := Lib.hid hv
          have hk60 : k < 60 := by have := H60.out; omega
          have HK60 := Lib.hid hk60
          have hyv : y.v.size ≤ 4096 := by have := HV.out; omega
          obtain ⟨z, hz, hzb, hz1, hz2, hz3, hzm⟩ := made_any wr y.c y.k y.p y.q y.v E (by have := HS.out.e8; omega) hyv
          have HMZ := Lib.hid hzm
          have HZ := Lib.hid hz
          have HZB := Lib.hid hzb
          have HZ1 := Lib.hid (And.intro hz1 (And.intro hz2 hz3))
          have HAB := Lib.hid hab
          have HLT := Lib.hid hlt
          clear hzm hz hzb hz1 hz2 hz3 hyv hab hlt hk hk60
          go_upto_region 11 with (fail)
          have HR0 := Lib.hid ((Below.refl wr.heap.size wr).drew)
          refine wp_region_seqo [0, 1, 2, 3, 4, 5, 6, 7, 8, 9, 10, 11] (S := (fun w' => Below wr.heap.size wr w' ∧ w'.cell? (a.add (k * 5)) = some (.int .i64 y.c) ∧ w'.cell? ⟨(a.add (k * 5)).block, (a.add (k * 5)).off + 1, none⟩ = some (.int .i64 y.k) ∧ w'.cell? ⟨(a.add (k * 5)).block, (a.add (k * 5)).off + 2, none⟩ = some (.int .i64 y.p) ∧ w'.cell? ⟨(a.add (k * 5)).block, (a.add (k * 5)).off + 3, none⟩ = some (.int .i64 y.q) ∧ w'.cell? ⟨(a.add (k * 5)).block, (a.add (k * 5)).off + 4, none⟩ = some (.string y.v))) (by kernel_rfl) (by kernel_rfl) ⟨HR0.out, r0, r1, r2, r3, r4⟩ ?_
          refine Seqo.light (v := ?_) rfl (by kernel_rfl) ?_ ?_
          rotate_left 1
          focus (intro w hSw; (try dsimp only at hSw); go_simp; try with_reducible rfl)
          try simp only [Act.put, List.setIfInBounds_toArray, List.set_cons_zero, List.set_cons_succ]
          refine Seqo.light (v := ?_) rfl (by kernel_rfl) ?_ ?_
          rotate_left 1
          focus (intro w hSw; (try dsimp only at hSw); go_simp; try with_reducible rfl)
          try simp only [Act.put, List.setIfInBounds_toArray, List.set_cons_zero, List.set_cons_succ]
          refine Seqo.light (v := ?_) rfl (by kernel_rfl) ?_ ?_
          rotate_left 1
          focus (intro w hSw; (try dsimp only at hSw); go_simp; try with_reducible rfl)
          try simp only [Act.put, List.setIfInBounds_toArray, List.set_cons_zero, List.set_cons_succ]
          refine Seqo.light (v := ?_) rfl (by kernel_rfl) ?_ ?_
          rotate_left 1
          focus (intro w hSw; (try dsimp only at hSw); go_simp; try with_reducible rfl)
          try simp only [Act.put, List.setIfInBounds_toArray, List.set_cons_zero, List.set_cons_succ]
          refine Seqo.light (v := ?_) rfl (by kernel_rfl) ?_ ?_
          rotate_left 1
          focus (intro w hSw; (try dsimp only at hSw); go_simp; try with_reducible rfl)
          try simp only [Act.put, List.setIfInBounds_toArray, List.set_cons_zero, List.set_cons_succ]
          refine Seqo.call (.int .i64 E) rfl (by kernel_rfl) (by kernel_rfl) (fun w hSw => by (try dsimp only at hSw); go_simp; exact ⟨rfl, rfl⟩) ?_ ?_
          · intro w3 hSw
            refine (l_end (HL.out.more hSw.1).a p qs rfl (by have := HN.out; omega)).mono ?_
            rintro e w4 ⟨rfl, hb4⟩
            rw [HS.out.e]
            obtain ⟨d, d0, d1, d2, d3, d4⟩ := hSw
            have hlt5 : a.block < w3.heap.size := Nat.lt_of_lt_of_le HAB.out d.size
            have hq : ∀ z : Addr, z.block = a.block → w4.cell? z = w3.cell? z := fun z hz => by unfold World.cell?; rw [hb4.block _ (by rw [hz]; exact hlt5)]
            exact ⟨rfl, d.trans (hb4.mono d.size), (hq _ (Opens.add_block a _)).trans d0, (hq ⟨(a.add (k * 5)).block, _, none⟩ (Opens.add_block a _)).trans d1, (hq ⟨(a.add (k * 5)).block, _, none⟩ (Opens.add_block a _)).trans d2, (hq ⟨(a.add (k * 5)).block, _, none⟩ (Opens.add_block a _)).trans d3, (hq ⟨(a.add (k * 5)).block, _, none⟩ (Opens.add_block a _)).trans d4⟩
          try simp only [Act.put, List.setIfInBounds_toArray, List.set_cons_zero, List.set_cons_succ]
          refine Seqo.call (.tuple #[.string (Bt.str z.l), .bool true]) rfl (by kernel_rfl) (by kernel_rfl) (fun w hSw => by (try dsimp only at hSw); go_simp; exact ⟨rfl, rfl⟩) ?_ ?_
          · intro w3 hSw
            refine (HMZ.out w3).mono ?_
            rintro e w4 ⟨rfl, hb4⟩
            obtain ⟨d, d0, d1, d2, d3, d4⟩ := hSw
            have hlt5 : a.block < w3.heap.size := Nat.lt_of_lt_of_le HAB.out d.size
            have hq : ∀ z : Addr, z.block = a.block → w4.cell? z = w3.cell? z := fun z hz => by unfold World.cell?; rw [hb4.block _ (by rw [hz]; exact hlt5)]
            exact ⟨rfl, d.trans (hb4.mono d.size), (hq _ (Opens.add_block a _)).trans d0, (hq ⟨(a.add (k * 5)).block, _, none⟩ (Opens.add_block a _)).trans d1, (hq ⟨(a.add (k * 5)).block, _, none⟩ (Opens.add_block a _)).trans d2, (hq ⟨(a.add (k * 5)).block, _, none⟩ (Opens.add_block a _)).trans d3, (hq ⟨(a.add (k * 5)).block, _, none⟩ (Opens.add_block a _)).trans d4⟩
          try simp only [Act.put, List.setIfInBounds_toArray, List.set_cons_zero, List.set_cons_succ]
          refine Seqo.light (v := ?_) rfl (by kernel_rfl) ?_ ?_
          rotate_left 1
          focus (intro w hSw; (try dsimp only at hSw); go_simp; try with_reducible rfl)
          try simp only [Act.put, List.setIfInBounds_toArray, List.set_cons_zero, List.set_cons_succ]
          refine Seqo.light (v := ?_) rfl (by kernel_rfl) ?_ ?_
          rotate_left 1
          focus (intro w hSw; (try dsimp only at hSw); go_simp; try with_reducible rfl)
          try simp only [Act.put, List.setIfInBounds_toArray, List.set_cons_zero, List.set_cons_succ]
          refine Seqo.light (v := ?_) rfl (by kernel_rfl) ?_ ?_
          rotate_left 1
          focus (intro w hSw; (try dsimp only at hSw); go_simp; try with_reducible rfl)
          try simp only [Act.put, List.setIfInBounds_toArray, List.set_cons_zero, List.set_cons_succ]
          refine Seqo.light (v := ?_) rfl (by kernel_rfl) ?_ ?_
          rotate_left 1
          focus (intro w hSw; (try dsimp only at hSw); go_simp; try with_reducible rfl)
          try simp only [Act.put, List.setIfInBounds_toArray, List.set_cons_zero, List.set_cons_succ]
          refine Seqo.light (v := ?_) rfl (by kernel_rfl) ?_ ?_
          rotate_left 1
          focus (intro w hSw; (try dsimp only at hSw); go_simp; try with_reducible rfl)
          try simp only [Act.put, List.setIfInBounds_toArray, List.set_cons_zero, List.set_cons_succ]
          refine Seqo.nil fun w5 hS5 => ?_
          have HL5 := Lib.hid (HL.out.more hS5.1)
          clear hS5 r0 r1 r2 r3 r4 HR0
          go_wp2_with fail
          refine (l_end HL5.out.a p qs rfl (by have := HN.out; omega)).mono ?_
          rintro e w6 ⟨rfl, hb6⟩
          rw [HS.out.e]
          have HL6 := Lib.hid (HL5.out.more hb6)
          have HI6 := Lib.hid (show Nums (w6.alloc (.cells #[.int .i64 E] 3)) w.heap.size (.slice bap bs.length bcap) bs from World.ownsRow.alloc HL6.out.nums _)
          clear hb6
          go_wp2_with (at_builtin; go_loud (refine wpList_append_own_at _ rfl _ _ 28 rfl w.heap.size 3 i0 (.int .i64 0) 1 8 Tryz.underlying28 HI.out.1 HI.out.2.1 HI.out.2.2.1 HI.out.2.2.2 rfl (by decide) _ _ _ rfl HI6.out ⟨w6.heap.size, 0, none⟩ 1 1 [.int .i64 E] rfl rfl (by intro j u hu; rw [add0, cell_of_row _ _ _ _ _ _ (heap_alloc_new w6 _)]; have : j < 1 := (List.getElem?_eq_some_iff.1 hu).1; rw [← hu]; simp) (by intro u hu; simp at hu; subst hu; rfl) (by unfold maxLen; have := HS.out.len; have := HK60.out; omega) (by have := HS.out.len; have := HK60.out; omega) (Nat.le_trans HL6.out.a.belowNo.size (by simp)) ?_; intro v7 w7 hown7 hgrow7 hnil7 hat7))
          have HL7 := Lib.hid (show Logs w w7 bl bd bm 1 fs v (qs ++ [p]) bl' bd' bm' 16777216 fs2 v2 [q] v7 (bs ++ [E]) from (HL6.out.more ((Below.refl _ _).alloc (Nat.le_refl _) (.cells #[.int .i64 E] 3))).grow (by simpa [Nums] using hown7) hgrow7 (fun j hj => by
            rcases hat7 with h7 | h7
            · exact .inl (h7.symm.trans hj)
            · rw [h7] at hj; cases hj; exact .inr (Nat.le_refl _)))
          clear hown7 hgrow7 hnil7 hat7
          go_wp2_with fail
          refine (app_a HL7.out HS.out HK60.out z HZ.out HZB.out HZ1.out.1 HZ1.out.2.1 HZ1.out.2.2).mono ?_
          rintro e w8 ⟨rfl, fs8, v8, qs8, p8, hL8, hS8⟩
          have HL8 := Lib.hid hL8
          have HS8 := Lib.hid hS8
          clear hL8 hS8
          go_wp2_with fail
          refine (app_b HL8.out HS2.out HK60.out z HZ.out HZB.out HZ1.out.2.2).mono ?_
          rintro e w9 ⟨rfl, fs9, q9, hL9, hS9⟩
          have HL9 := Lib.hid hL9
          have HS9 := Lib.hid hS9
          clear hL9 hS9
          go_wp2_with fail
          go_roundw
          case rel => exact ⟨k + 1, E + z.c, fs8, v8, qs8, p8, fs9, v2, q9, bs ++ [E], by go_num, by have := HLT.out; omega, HL9.out, HS8.out, HS9.out⟩
          case measure => have := HLT.out; simp [intOf]; omega
      · obtain rfl : k = ss.length := by omega
        have hlt' : ¬ (ss.length : Int) < (ss.length : Int) := by omega
        clear hlt hk
        go_wp2_with fail
        refine (l_segments HL.out.a (by simp) (by have := HN.out; omega)).mono ?_
        rintro e w3 ⟨pv, rfl, hI3, hb3⟩
        have HL3 := Lib.hid (HL.out.more hb3)
        have HI3 := Lib.hid hI3
        clear hI3 hb3
        go_wp2_with fail
        refine (l_segments HL3.out.b (by simp) (by simp)).mono ?_
        rintro e w4 ⟨qv, rfl, hI4, hb4⟩
        have HL4 := Lib.hid (HL3.out.more hb4)
        obtain ⟨N0, hi4⟩ : ∃ N0, Ints w4 N0 pv (qs ++ [p]) := ⟨wr.heap.size, Vd.ownsRow_at HI3.out fun j hj => hb4.block j (World.ownsRow.lt HI3.out j hj).2⟩
        have HI4 := Lib.hid hi4
        clear hi4
        obtain ⟨g1, cap1, hq1, _, _⟩ := World.ownsRow.form hI4 (by simp)
        replace hq1 : qv = .slice (some ⟨g1, 0, none⟩) 1 cap1 := hq1
        subst hq1
        obtain ⟨g2, cap2, hq2, _, _⟩ := World.ownsRow.form HI4.out (by simp)
        subst hq2
        clear hI4 hb4
        by_cases h0 : ss.length = 0
        · have HQ := Lib.hid (show (qs ++ [p]).length = 1 from by
            rcases HS.out.shape with ⟨_, h2, _⟩ | ⟨h1, _⟩
            · rw [h2]; rfl
            · omega)
          have h0' : (ss.length : Int) = 0 := by omega
          rw [HQ.out]
          clear hlt'
          go_wp2_with fail
          refine (awake _ HL4.out.a.tabAt).mono ?_
          rintro e w5 ⟨rfl, hb5⟩
          go_wp2
          go_ret
          exact ⟨rfl, HL4.out.a.belowNo.trans (hb5.mono HL4.out.a.belowNo.size)⟩
        · have HB := Lib.hid (show bs = (qs ++ [p]).map Prt.base from by
            rcases HS.out.shape with ⟨h1, _⟩ | ⟨_, h1, _⟩
            · omega
            · exact h1)
          have HQ := Lib.hid (show (qs ++ [p]).length = bs.length from by rw [HB.out]; simp)
          have h0' : ¬ (ss.length : Int) = 0 := by omega
          rw [HQ.out]
          clear hlt'
          have hn0 : (0 : Int) ≤ (bs.length : Int) := by omega
          have HLE := Lib.hid (show bs.length ≤ 61 from by have := HN.out; have := HQ.out; omega)
          go_wp2_with fail
          go_loopw [15] (fun i V => (∃ j : Nat, i = .int .i64 j ∧ j ≤ bs.length) ∧ Below w4.heap.size w4 V) (fun i _ => bs.length - (intOf i).toNat)
          case atStart => exact ⟨⟨0, rfl, by omega⟩, Below.refl _ _⟩
          case round =>
            obtain ⟨⟨j, rfl, hj⟩, hbV⟩ := hrel
            have HV := Lib.hid hbV
            have HLV := Lib.hid (HL4.out.more hbV)
            have HIV := Lib.hid (show Ints wr N0 (.slice (some ⟨g2, 0, none⟩) (qs ++ [p]).length cap2) (qs ++ [p]) from Vd.ownsRow_at HI4.out fun j hj => hbV.block j (World.ownsRow.lt HI4.out j hj).2)
            clear hbV
            by_cases hjl : j < bs.length
            · have hjl' : (j : Int) < (bs.length : Int) := by omega
              have hj0 : (0 : Int) ≤ (j : Int) := by omega
              obtain ⟨g3, rfl, c1⟩ := HLV.out.nums.cell j hjl
              have c2 : wr.cell? ⟨g2, j, none⟩ = some (.int .i64 bs[j]) := by
                rw [World.ownsRow.cellAt HIV.out j (by rw [HQ.out]; omega)]
                have : ((qs ++ [p]).map fun p : Prt => Value.int .i64 p.base)[j]? = (((qs ++ [p]).map Prt.base).map fun b : Nat => Value.int .i64 b)[j]? := by rw [List.map_map]; rfl
                rw [this, ← HB.out]
                simp [hjl]
              generalize bs[j] = x at c1 c2
              have HJ := Lib.hid hjl
              have hj61 : (j : Int) ≤ 61 := by have := HLE.out; omega
              clear hjl hj
              go_wp2_with (go_quiet (fail))
              go_roundw
              case rel => exact ⟨⟨j + 1, by go_num, by have := HJ.out; omega⟩, HV.out.trans ⟨rfl, rfl, rfl, Nat.le_refl _, fun _ _ => rfl⟩⟩
              case measure => have := HJ.out; simp [intOf]; omega
            · obtain rfl : j = bs.length := by omega
              have hjl' : ¬ (bs.length : Int) < (bs.length : Int) := by omega
              clear hjl hj
              go_wp2_with fail
              refine (l_end HLV.out.a p qs rfl (by have := HN.out; omega)).mono ?_
              rintro e w5 ⟨rfl, hb5⟩
              rw [HS.out.e]
              have HL5 := Lib.hid (HLV.out.more hb5)
              clear hb5
              go_wp2_with fail
              refine (l_end HL5.out.b q [] rfl (by simp)).mono ?_
              rintro e w6 ⟨rfl, hb6⟩
              rw [HS2.out.e]
              have HL6 := Lib.hid (HL5.out.more hb6)
              clear hb6
              go_wp2_with fail
              refine (awake _ HL6.out.a.tabAt).mono ?_
              rintro e w7 ⟨rfl, hb7⟩
              go_wp2
              go_ret
              exact ⟨rfl, HL6.out.a.belowNo.trans (hb7.mono HL6.out.a.belowNo.size)⟩
end Go.Proofs.YtcioejacijkbcaaGreatDoor.Lg
