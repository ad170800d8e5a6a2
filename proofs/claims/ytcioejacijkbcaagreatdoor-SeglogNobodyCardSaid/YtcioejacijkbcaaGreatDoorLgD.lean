/- seglog: a log in memory; last, End, writes. -/
import Derived.Test.YtcioejacijkbcaaGreatDoorLgA
import Derived.Test.YtcioejacijkbcaaGreatDoorSgO
import Derived.Deep.RegionLaw
import Derived.Deep.AppendLies
import Derived.Deep.QuietTactic
import Derived.BigQuiet
import Derived.StillTailTactics
import Derived.Test.YtcioejacijkbcaaGreatDoorRh
import Derived.Test.YtcioejacijkbcaaGreatDoorRcD
set_option linter.unusedSimpArgs false
namespace Go.Proofs.YtcioejacijkbcaaGreatDoor.Lg
open Go.RowKit Go.Maps Go.ChangeMaps Go.WideMaps Go.Proofs.YtcioejacijkbcaaGreatDoor.Vd Go.Proofs.YtcioejacijkbcaaGreatDoor.Rc Go.Proofs.YtcioejacijkbcaaGreatDoor.Rg Go.Proofs.YtcioejacijkbcaaGreatDoor.Sg
set_option linter.unusedVariables false
/-- a part: a segment that was made once -/
structure Prt where
  bs : Nat
  base : Nat
  xs : List Sg.Bat
  mv : Value
def Prt.blocks (p : Prt) : List Nat := p.bs :: p.mv.ownBlock.toList
def Prt.cells (p : Prt) : List Value := [.pointer (some ⟨p.bs, 0, none⟩), .int .i64 0]
def Parts (w : World) (v : Value) (ps : List Prt) : Prop := w.ownsRow 0 66 2 v ps.length (ps.flatMap Prt.cells)
def man : ByteArray := { data := #[109, 97, 110, 105, 102, 101, 115, 116] }
def fresh : ByteArray := { data := #[109, 97, 110, 105, 102, 101, 115, 116, 46, 110, 101, 119] }
theorem good_man : Vd.Good man := good_str [109, 97, 110, 105, 102, 101, 115, 116] (by decide) (by decide) (by decide)
theorem good_fresh : Vd.Good fresh := good_str [109, 97, 110, 105, 102, 101, 115, 116, 46, 110, 101, 119] (by decide) (by decide) (by decide)
theorem nm_ne (u : Nat) : nm u ≠ man ∧ nm u ≠ fresh := by
  rw [nm_list]
  refine ⟨fun e => ?_, fun e => ?_⟩ <;>
  · have := congrArg (fun x : ByteArray => x.data.toList) e
    simp [str, man, fresh] at this
theorem man_fresh : fresh ≠ man := by decide
theorem cells3 {w : World} {b : Nat} {v0 v1 v2 : Value} {t : TypeId} {fr : Nat × Nat} (h : w.heap[b]? = some (.cells #[v0, v1, v2] t fr)) : w.cell? ⟨b, 0, none⟩ = some v0 ∧ w.cell? ⟨b, 1, none⟩ = some v1 ∧ w.cell? ⟨b, 2, none⟩ = some v2 :=
  ⟨Vd.cell_of h 0, Vd.cell_of h 1, Vd.cell_of h 2⟩
theorem cells2 {w : World} {b : Nat} {v0 v1 : Value} {t : TypeId} {fr : Nat × Nat} (h : w.heap[b]? = some (.cells #[v0, v1] t fr)) : w.cell? ⟨b, 0, none⟩ = some v0 ∧ w.cell? ⟨b, 1, none⟩ = some v1 :=
  ⟨Vd.cell_of h 0, Vd.cell_of h 1⟩
theorem pcells_length (ps : List Prt) : (ps.flatMap Prt.cells).length = ps.length * 2 := by
  induction ps with
  | nil => rfl
  | cons p ps ih => simp only [List.flatMap_cons, List.length_append, ih, List.length_cons]; simp [Prt.cells]; omega
theorem pcells_get (ps : List Prt) (i j : Nat) (hi : i < ps.length) (hj : j < 2) : (ps.flatMap Prt.cells)[i * 2 + j]? = (ps[i].cells)[j]? := by
  induction ps generalizing i with
  | nil => simp at hi
  | cons p ps ih =>
    simp only [List.flatMap_cons]
    cases i with
    | zero =>
      rw [List.getElem?_append_left (by simp [Prt.cells]; omega)]
      simp
    | succ i =>
      rw [List.getElem?_append_right (by simp [Prt.cells]; omega)]
      rw [show (i + 1) * 2 + j - p.cells.length = i * 2 + j from by simp [Prt.cells]; omega]
      exact ih i (by simpa using hi)
theorem Parts.cell {w : World} {ap : Option Addr} {n cap : Nat} {ps : List Prt} (h : Parts w (.slice ap n cap) ps) (i : Nat) (hi : i < ps.length) :
    n = ps.length ∧ ∃ g, ap = some ⟨g, 0, none⟩ ∧ w.cell? ⟨g, i * 2, none⟩ = some (.pointer (some ⟨ps[i].bs, 0, none⟩)) ∧ w.cell? ⟨g, i * 2 + 1, none⟩ = some (.int .i64 0) := by
  obtain ⟨g, c, hv, _, _⟩ := World.ownsRow.form h (by omega)
  simp only [Value.slice.injEq] at hv
  obtain ⟨h1, h2, h3⟩ := hv
  subst h1
  subst h2
  subst h3
  have hc := fun j (hj : j < 2) => World.ownsRow.cellAt (g := g) (n := ps.length) (cap := cap) h (i * 2 + j) (by omega)
  refine ⟨rfl, g, rfl, ?_, ?_⟩
  · have := hc 0 (by decide); rw [pcells_get ps i 0 hi (by decide)] at this; exact this
  · have := hc 1 (by decide); rw [pcells_get ps i 1 hi (by decide)] at this; exact this
theorem Parts.form {w : World} {v : Value} {ps : List Prt} (h : Parts w v ps) (hn : 0 < ps.length) : ∃ g cap, v = .slice (some ⟨g, 0, none⟩) ps.length cap := by
  obtain ⟨g, c, hv, _, _⟩ := World.ownsRow.form h hn
  exact ⟨g, c, hv⟩
/-- a log -/
structure LogAt (w0 : World) (F0 : Nat → Prop) (w : World) (bl bd bm room limit : Nat) (fs : List Fil) (v : Value) (ps : List Prt) : Prop where
  disk : DiskAt w bd bm room fs
  cell : w.heap[bl]? = some (.cells #[.pointer (some ⟨bd, 0, none⟩), .int .i64 limit, v] 42 (0, 0))
  row : Parts w v ps
  part : ∀ p ∈ ps, SegIn w p.bs bd (nm p.base) p.base fs p.xs p.mv
  bases : ∀ p ∈ ps, p.base < 500
  nodup : (ps.map Prt.base).Nodup
  apart : (bl :: (v.ownBlock.toList ++ ps.flatMap Prt.blocks)).Nodup
  dsk : ∀ k ∈ bl :: (v.ownBlock.toList ++ ps.flatMap Prt.blocks), ¬ DiskB bd bm fs k
  ge : ∀ k, (k ∈ bl :: (v.ownBlock.toList ++ ps.flatMap Prt.blocks) ∨ DiskB bd bm fs k) → F0 k ∨ w0.heap.size ≤ k
  below : Vd.Touch F0 w0 w
  tab : Tab w0 ∧ ¬ F0 3
section
variable {w0 w w' : World} {F0 : Nat → Prop} {bl bd bm room limit : Nat} {fs : List Fil} {v : Value} {ps : List Prt}
theorem SegIn.below {bs : Nat} {name : ByteArray} {base : Nat} {xs : List Sg.Bat} {mv : Value} (h : SegIn w bs bd name base fs xs mv) (hb : Below w.heap.size w w') : SegIn w' bs bd name base fs xs mv :=
  ⟨h.seg.below hb, h.chain, h.good, h.file⟩
theorem LogAt.more (h : LogAt w0 F0 w bl bd bm room limit fs v ps) (hb : Below w.heap.size w w') : LogAt w0 F0 w' bl bd bm room limit fs v ps :=
  ⟨h.disk.below hb, (hb.block _ (Vd.lt_of_heap h.cell)).trans h.cell, Vd.ownsRow_at h.row fun k hk => hb.block k (World.ownsRow.lt h.row k hk).2, fun p hp => (h.part p hp).below hb, h.bases, h.nodup, h.apart, h.dsk, h.ge, h.below.trans (Vd.Touch.ofBelow (F := fun _ => False) hb) (fun _ hx => hx.elim), h.tab⟩
theorem LogAt.tabAt (h : LogAt w0 F0 w bl bd bm room limit fs v ps) : Tab w := h.tab.1.block (h.below.block _ h.tab.1.lt h.tab.2)
set_option maxRecDepth 100000 in
theorem l_last (h : LogAt w0 F0 w bl bd bm room limit fs v ps) (p : Prt) (qs : List Prt) (hp : ps = qs ++ [p]) (hn : ps.length ≤ 1000) :
    Calls Tryz.prog 21 #[.pointer (some ⟨bl, 0, none⟩)] w fun e w' => e = .returned (.agg #[.pointer (some ⟨p.bs, 0, none⟩), .int .i64 0]) ∧ Below w.heap.size w w' := by
  subst hp
  obtain ⟨g, cap, rfl⟩ := h.row.form (by simp)
  have hk : qs.length < (qs ++ [p]).length := by simp
  obtain ⟨_, g', hg, hc0, hc1⟩ := Parts.cell h.row qs.length hk
  cases hg
  rw [show (qs ++ [p])[qs.length] = p from by simp] at hc0
  obtain ⟨c0, c1, c2⟩ := cells3 h.cell
  have hb := (Below.refl w.heap.size w).alloc (Nat.le_refl _) (.cells #[.pointer none, .int .i64 0] 66)
  have d0 := (hb.cell (p := ⟨bl, 0, none⟩) (Vd.lt_of_heap h.cell)).trans c0
  have d2 := (hb.cell (p := ⟨bl, 2, none⟩) (Vd.lt_of_heap h.cell)).trans c2
  have hgl := (World.ownsRow.lt h.row g rfl).2
  have e0 := (hb.cell (p := ⟨g, qs.length * 2, none⟩) hgl).trans hc0
  have e1 := (hb.cell (p := ⟨g, qs.length * 2 + 1, none⟩) hgl).trans hc1
  have hnew := heap_alloc_new w (.cells #[.pointer none, .int .i64 0] 66)
  have HB := Lib.hid hb
  have HN := Lib.hid hnew
  obtain ⟨f0, f1⟩ := cells2 hnew
  have hfz := fun j => Lib.frozen_of_heap hnew j
  have hql : qs.length ≤ 1000 := by simp at hn; omega
  rw [show (qs ++ [p]).length = qs.length + 1 from by simp] at d2 c2
  have hlt : (qs.length : Int) < (qs.length : Int) + 1 := by omega
  have hq0 : (0 : Int) ≤ (qs.length : Int) := by omega
  have hqw : IntKind.i64.wrap (qs.length : Int) = (qs.length : Int) := IntWalk.i64_in _ (by omega)
  clear h hk hc0 hc1 c0 c1 c2 hb hnew hn hgl
  go_enter Tryz.func21, Tryz.ntmps21
  go_wp2_with fail
  refine wp_region_seqo [0, 1, 2, 3, 4, 5, 6, 7, 8, 9, 10, 11, 12] (S := (fun w' => Below w.heap.size w w' ∧ w'.cell? ⟨bl, 2, none⟩ = some (.slice (some ⟨g, 0, none⟩) (qs.length + 1) cap) ∧ w'.cell? ⟨g, qs.length * 2, none⟩ = some (.pointer (some ⟨p.bs, 0, none⟩)) ∧ w'.cell? ⟨g, qs.length * 2 + 1, none⟩ = some (.int .i64 0) ∧ w'.heap[w.heap.size]? = some (.cells #[.pointer none, .int .i64 0] 66 (0, 0)))) (by kernel_rfl) (by kernel_rfl) ⟨HB.out.drew, d2, e0, e1, HN.out⟩ ?_
  refine Seqo.light (v := ?_) rfl (by kernel_rfl) ?_ ?_
  rotate_left 1
  focus (intro w hSw; (try dsimp only at hSw); go_simp; try with_reducible rfl)
  try simp only [Act.put, List.setIfInBounds_toArray, List.set_cons_zero, List.set_cons_succ]
  refine Seqo.light (v := ?_) rfl (by kernel_rfl) ?_ ?_
  rotate_left 1
  focus (intro w hSw; (try dsimp only at hSw); go_simp; try with_reducible rfl)
  try simp only [Act.put, List.setIfInBounds_toArray, List.set_cons_zero, List.set_cons_succ]
  refine Seqo.light (v := ?_) rfl (by kernel_rfl) ?_ ?_
  rotate_left 1
  focus (intro w hSw; (try dsimp only at hSw); go_simp; try with_reducible rfl)
  try simp only [Act.put, List.setIfInBounds_toArray, List.set_cons_zero, List.set_cons_succ]
  refine Seqo.light (v := ?_) rfl (by kernel_rfl) ?_ ?_
  rotate_left 1
  focus (intro w hSw; (try dsimp only at hSw); go_simp; try with_reducible rfl)
  try simp only [Act.put, List.setIfInBounds_toArray, List.set_cons_zero, List.set_cons_succ]
  refine Seqo.light (v := ?_) rfl (by kernel_rfl) ?_ ?_
  rotate_left 1
  focus (intro w hSw; (try dsimp only at hSw); go_simp; try with_reducible rfl)
  try simp only [Act.put, List.setIfInBounds_toArray, List.set_cons_zero, List.set_cons_succ]
  refine Seqo.light (v := ?_) rfl (by kernel_rfl) ?_ ?_
  rotate_left 1
  focus (intro w hSw; (try dsimp only at hSw); go_simp; try with_reducible rfl)
  try simp only [Act.put, List.setIfInBounds_toArray, List.set_cons_zero, List.set_cons_succ]
  refine Seqo.light (v := ?_) rfl (by kernel_rfl) ?_ ?_
  rotate_left 1
  focus (intro w hSw; (try dsimp only at hSw); go_simp; try with_reducible rfl)
  try simp only [Act.put, List.setIfInBounds_toArray, List.set_cons_zero, List.set_cons_succ]
  refine Seqo.light (v := ?_) rfl (by kernel_rfl) ?_ ?_
  rotate_left 1
  focus (intro w hSw; (try dsimp only at hSw); go_simp; try with_reducible rfl)
  try simp only [Act.put, List.setIfInBounds_toArray, List.set_cons_zero, List.set_cons_succ]
  refine Seqo.light (v := ?_) rfl (by kernel_rfl) ?_ ?_
  rotate_left 1
  focus (intro w hSw; (try dsimp only at hSw); go_simp; try with_reducible rfl)
  try simp only [Act.put, List.setIfInBounds_toArray, List.set_cons_zero, List.set_cons_succ]
  refine Seqo.light (v := ?_) rfl (by kernel_rfl) ?_ ?_
  rotate_left 1
  focus (intro w hSw; (try dsimp only at hSw); go_simp; try with_reducible rfl)
  try simp only [Act.put, List.setIfInBounds_toArray, List.set_cons_zero, List.set_cons_succ]
  refine Seqo.light (v := ?_) rfl (by kernel_rfl) ?_ ?_
  rotate_left 1
  focus (intro w hSw; (try dsimp only at hSw); go_simp; try with_reducible rfl)
  try simp only [Act.put, List.setIfInBounds_toArray, List.set_cons_zero, List.set_cons_succ]
  refine Seqo.light (v := ?_) rfl (by kernel_rfl) ?_ ?_
  rotate_left 1
  focus (intro w hSw; (try dsimp only at hSw); go_simp; try with_reducible rfl)
  try simp only [Act.put, List.setIfInBounds_toArray, List.set_cons_zero, List.set_cons_succ]
  refine Seqo.storew (fun w' => Below w.heap.size w w' ∧ w'.heap[w.heap.size]? = some (.cells #[.pointer (some ⟨p.bs, 0, none⟩), .int .i64 0] 66 (0, 0))) rfl (by kernel_rfl) (by kernel_rfl) ?_ (.inr (by kernel_rfl)) ?_
  · intro w2 hS2
    obtain ⟨q0, q1, q2, q3, q4⟩ := hS2
    refine ⟨(w2.setCell ⟨w.heap.size, 0, none⟩ (.pointer (some ⟨p.bs, 0, none⟩))).setCell ⟨w.heap.size, 1, none⟩ (.int .i64 0), ?_, (q0.setCell (p := ⟨w.heap.size, 0, none⟩) (Nat.le_refl _) _).setCell (p := ⟨w.heap.size, 1, none⟩) (Nat.le_refl _) _, (Vd.setCell_block (Vd.setCell_block q4 0 _) 1 _).trans rfl⟩
    obtain ⟨f0, f1⟩ := cells2 q4
    have hfz := fun j => Lib.frozen_of_heap q4 j
    go_simp
  try simp only [Act.put, List.setIfInBounds_toArray, List.set_cons_zero, List.set_cons_succ]
  refine Seqo.nil fun w5 hS5 => ?_
  obtain ⟨hb5, hh5⟩ := hS5
  obtain ⟨f0, f1⟩ := cells2 hh5
  clear d0 d2 e0 e1 hfz
  go_wp2
  refine bodyPost_ret (v := .agg #[.pointer (some ⟨p.bs, 0, none⟩), .int .i64 0]) (by simp [results, Tryz.results21, go_sem, *]) rfl ⟨rfl, hb5⟩
end
end Go.Proofs.YtcioejacijkbcaaGreatDoor.Lg
/- seglog: End, writes, opens, Clone of parts. -/
namespace Go.Proofs.YtcioejacijkbcaaGreatDoor.Lg
open Go.RowKit Go.Maps Go.ChangeMaps Go.WideMaps Go.Proofs.YtcioejacijkbcaaGreatDoor.Vd Go.Proofs.YtcioejacijkbcaaGreatDoor.Rc Go.Proofs.YtcioejacijkbcaaGreatDoor.Rg Go.Proofs.YtcioejacijkbcaaGreatDoor.Sg
set_option linter.unusedVariables false
theorem field_part (W : World) (a : Option Addr) (n : Int) : (Instr.field 66 (.agg #[.pointer a, .int .i64 n]) 0).run Tryz.prog W = .ok (.pointer a) W := by kernel_rfl
section
variable {w0 w w' : World} {F0 : Nat → Prop} {bl bd bm room limit : Nat} {fs : List Fil} {v : Value} {ps : List Prt}
theorem l_given (h : LogAt w0 F0 w bl bd bm room limit fs v ps) (hn : 0 < ps.length) : Calls Tryz.prog 20 #[.pointer (some ⟨bl, 0, none⟩)] w fun e w' => e = .returned (.bool true) ∧ w = w' := by
  obtain ⟨g, cap, rfl⟩ := h.row.form hn
  exact given_any w bl _ _ _ (cells3 h.cell).2.2 true (by simpa using hn)
set_option maxRecDepth 100000 in
theorem l_end (h : LogAt w0 F0 w bl bd bm room limit fs v ps) (p : Prt) (qs : List Prt) (hp : ps = qs ++ [p]) (hn : ps.length ≤ 1000) :
    Calls Tryz.prog 8 #[.pointer (some ⟨bl, 0, none⟩)] w fun e w' => e = .returned (.int .i64 (endOf p.base p.xs)) ∧ Below w.heap.size w w' := by
  have HG := Lib.hid (l_given h (by rw [hp]; simp))
  have HL := Lib.hid (l_last h p qs hp hn)
  have HP := Lib.hid (h.part p (by rw [hp]; simp))
  have hfp := fun W a => field_part W a 0
  clear h
  go_enter Tryz.func8, Tryz.ntmps8
  go_wp2_with fail
  refine HG.out.mono ?_
  rintro e w1 ⟨rfl, rfl⟩
  go_wp2_with fail
  refine HL.out.mono ?_
  rintro e w1 ⟨rfl, hb1⟩
  have HB := Lib.hid hb1
  have HP1 := Lib.hid (HP.out.below hb1)
  clear hb1
  go_wp2_with fail
  refine (end_yes HP1.out.seg).mono ?_
  rintro e w2 ⟨rfl, rfl⟩
  go_wp2
  go_ret
  exact ⟨rfl, HB.out⟩
/-- a disk with a manifest -/
structure Wrote (w w' : World) (bd bm room : Nat) (fs fs' : List Fil) (t : ByteArray) : Prop where
  ev : Evolves w w' bd bm room fs fs'
  m : look fs' Lg.man = some t.data.toList
  f : look fs' Lg.fresh = none
  other : ∀ n, n ≠ Lg.man → n ≠ Lg.fresh → look fs' n = look fs n
  tot : total fs' ≤ total fs + t.size
  few : fs'.length ≤ fs.length + 1
set_option maxRecDepth 100000 in
theorem l_writes (D : DiskAt w bd bm room fs) (bl' : Nat) (hc : w.cell? ⟨bl, 0, none⟩ = some (.pointer (some ⟨bd, 0, none⟩))) (hnd : ¬ DiskB bd bm fs bl) (hfr : look fs Lg.fresh = none) (t : ByteArray) (hlen : fs.length < 256) (hr : total fs + t.size ≤ room) :
    Calls Tryz.prog 30 #[.pointer (some ⟨bl, 0, none⟩), .string t] w fun e w' => e = .returned (.int .i64 0) ∧ ∃ fs', Wrote w w' bd bm room fs fs' t := by
  have hbl : bl < w.heap.size := by
    unfold World.cell? at hc
    rcases Nat.lt_or_ge bl w.heap.size with h | h
    · exact h
    · rw [Array.getElem?_eq_none h] at hc; cases hc
  have HD := Lib.hid D
  have HF := Lib.hid hfr
  have HND := Lib.hid hnd
  have HBL := Lib.hid hbl
  have HLR := Lib.hid (And.intro hlen hr)
  clear D hfr hnd hbl hlen hr
  go_enter Tryz.func30, Tryz.ntmps30
  go_wp2_with fail
  refine (remove_none HD.out Lg.fresh good_fresh (look_none.1 HF.out)).mono ?_
  rintro e w1 ⟨rfl, hb1⟩
  have HD1 := Lib.hid (HD.out.below hb1)
  have HB1 := Lib.hid hb1
  have hc1 := (hb1.cell (p := ⟨bl, 0, none⟩) HBL.out).trans hc
  clear hb1 hc
  go_wp2_with fail
  refine (d_append HD1.out Lg.fresh t good_fresh HLR.out.1 HLR.out.2).mono ?_
  rintro e w2 ⟨rfl, fs2, hE2, l1, l2, l3, l4⟩
  have hc2 : w2.cell? ⟨bl, 0, none⟩ = some (.pointer (some ⟨bd, 0, none⟩)) := by
    rw [World.cell?_of_block (hE2.touch.block bl (Nat.lt_of_lt_of_le HBL.out HB1.out.size) HND.out)]; exact hc1
  have HD2 := Lib.hid hE2.disk
  have hnd2 : ¬ DiskB bd bm fs2 bl := fun h => by
    rcases hE2.new bl h with h | h
    · exact HND.out h
    · have := HB1.out.size; have := HBL.out; omega
  have HND2 := Lib.hid hnd2
  have HE2 := Lib.hid hE2
  rw [HF.out] at l1
  have l1' : look fs2 Lg.fresh = some t.data.toList := by simpa using l1
  have HL2 := Lib.hid (And.intro l1' (And.intro l2 (And.intro l3 l4)))
  clear hE2 l1 l1' l2 l3 l4 hnd2 hc1
  go_wp2_with fail
  refine (d_sync HD2.out Lg.fresh _ HL2.out.1).mono ?_
  rintro e w3 ⟨rfl, fs3, hE3, m1, m2, m3⟩
  have hc3 : w3.cell? ⟨bl, 0, none⟩ = some (.pointer (some ⟨bd, 0, none⟩)) := by
    rw [World.cell?_of_block (hE3.touch.block bl (Nat.lt_of_lt_of_le HBL.out (Nat.le_trans HB1.out.size HE2.out.touch.size)) HND2.out)]; exact hc2
  have HD3 := Lib.hid hE3.disk
  have HE3 := Lib.hid (HE2.out.trans hE3)
  have HM3 := Lib.hid (And.intro m1 (And.intro m2 m3))
  clear hE3 m1 m2 m3 hc2
  go_wp2_with fail
  refine (d_rename HD3.out Lg.fresh Lg.man good_man man_fresh _ (by rw [HM3.out.1]; exact HL2.out.1)).mono ?_
  rintro e w4 ⟨rfl, fs4, hE4, k1, k2, k3, k4, k5⟩
  go_wp2
  go_ret
  refine ⟨rfl, fs4, ?_, k1, k2, fun n h1 h2 => ?_, ?_, ?_⟩
  · have h5 := HE3.out.trans hE4
    have h6 : Evolves w w4 bd bm room fs fs4 := ⟨h5.disk, (Vd.Touch.ofBelow (F := DiskB bd bm fs) HB1.out).trans h5.touch (fun x hx => .inl hx), fun k hk => by
      rcases h5.new k hk with h | h
      · exact .inl h
      · exact .inr (Nat.le_trans HB1.out.size h)⟩
    exact h6
  · rw [k3 n h2 h1, HM3.out.1, HL2.out.2.1 n h2]
  · have := HL2.out.2.2.1; have := HM3.out.2.1; omega
  · have := HL2.out.2.2.2; have := HM3.out.2.2; omega
/-- a segment that is not there yet -/
theorem nm_open (D : DiskAt w bd bm room fs) (u : Nat) (hu : u < 500) (hno : look fs (nm u) = none) :
    Calls Tryz.prog 71 #[.pointer (some ⟨bd, 0, none⟩), .string (nm u), .int .i64 u] w fun e w' => ∃ b, e = .returned (.tuple #[.pointer (some ⟨b, 0, none⟩), .int .i64 0, .int .i64 0]) ∧ w.heap.size ≤ b ∧ SegIn w' b bd (nm u) u fs [] (.slice none 0 0) ∧ Below w.heap.size w w' := by
  refine (open_new D (nm u) (good_nm u (by omega)) (look_none.1 hno) u (by omega)).mono ?_
  rintro e w' ⟨b, rfl, h1, h2, h3⟩
  exact ⟨b, rfl, h1, ⟨h2, trivial, good_nm u (by omega), .inr ⟨hno, rfl⟩⟩, h3⟩
set_option maxRecDepth 100000 in
theorem l_opens (D : DiskAt w bd bm room fs) (hc : w.cell? ⟨bl, 0, none⟩ = some (.pointer (some ⟨bd, 0, none⟩))) (u : Nat) (hu : u < 500) (hno : look fs (nm u) = none) :
    Calls Tryz.prog 36 #[.pointer (some ⟨bl, 0, none⟩), .int .i64 u, .int .i64 0] w fun e w' => ∃ b, e = .returned (.tuple #[.agg #[.pointer (some ⟨b, 0, none⟩), .int .i64 0], .int .i64 0]) ∧ w.heap.size ≤ b ∧ SegIn w' b bd (nm u) u fs [] (.slice none 0 0) ∧ Below w.heap.size w w' := by
  have hbl : bl < w.heap.size := by
    unfold World.cell? at hc
    rcases Nat.lt_or_ge bl w.heap.size with h | h
    · exact h
    · rw [Array.getElem?_eq_none h] at hc; cases hc
  have HD := Lib.hid D
  have HU := Lib.hid hu
  have HNO := Lib.hid hno
  have hb := (Below.refl w.heap.size w).alloc (Nat.le_refl _) (.cells #[.pointer none, .int .i64 0] 66)
  have HB := Lib.hid hb
  have HC := Lib.hid ((hb.cell (p := ⟨bl, 0, none⟩) hbl).trans hc)
  have hnew := heap_alloc_new w (.cells #[.pointer none, .int .i64 0] 66)
  have HN := Lib.hid hnew
  have HBL := Lib.hid hbl
  clear D hu hno hb hc hnew hbl
  go_enter Tryz.func36, Tryz.ntmps36
  go_wp2_with fail
  refine wp_region_seqo [0, 1, 2, 3, 4, 5, 6, 7, 8, 9, 10, 11, 12, 13, 14, 15] (S := (fun w' => Below w.heap.size w w' ∧ w'.cell? ⟨bl, 0, none⟩ = some (.pointer (some ⟨bd, 0, none⟩)) ∧ w'.heap[w.heap.size]? = some (.cells #[.pointer none, .int .i64 0] 66 (0, 0)))) (by kernel_rfl) (by kernel_rfl) ⟨HB.out.drew, HC.out, HN.out⟩ ?_
  refine Seqo.light (v := ?_) rfl (by kernel_rfl) ?_ ?_
  rotate_left 1
  focus (intro w hSw; (try dsimp only at hSw); go_simp; try with_reducible rfl)
  try simp only [Act.put, List.setIfInBounds_toArray, List.set_cons_zero, List.set_cons_succ]
  refine Seqo.light (v := ?_) rfl (by kernel_rfl) ?_ ?_
  rotate_left 1
  focus (intro w hSw; (try dsimp only at hSw); go_simp; try with_reducible rfl)
  try simp only [Act.put, List.setIfInBounds_toArray, List.set_cons_zero, List.set_cons_succ]
  refine Seqo.light (v := ?_) rfl (by kernel_rfl) ?_ ?_
  rotate_left 1
  focus (intro w hSw; (try dsimp only at hSw); go_simp; try with_reducible rfl)
  try simp only [Act.put, List.setIfInBounds_toArray, List.set_cons_zero, List.set_cons_succ]
  refine Seqo.light (v := ?_) rfl (by kernel_rfl) ?_ ?_
  rotate_left 1
  focus (intro w hSw; (try dsimp only at hSw); go_simp; try with_reducible rfl)
  try simp only [Act.put, List.setIfInBounds_toArray, List.set_cons_zero, List.set_cons_succ]
  refine Seqo.light (v := ?_) rfl (by kernel_rfl) ?_ ?_
  rotate_left 1
  focus (intro w hSw; (try dsimp only at hSw); go_simp; try with_reducible rfl)
  try simp only [Act.put, List.setIfInBounds_toArray, List.set_cons_zero, List.set_cons_succ]
  refine Seqo.light (v := ?_) rfl (by kernel_rfl) ?_ ?_
  rotate_left 1
  focus (intro w hSw; (try dsimp only at hSw); go_simp; try with_reducible rfl)
  try simp only [Act.put, List.setIfInBounds_toArray, List.set_cons_zero, List.set_cons_succ]
  refine Seqo.call (.string (nm u)) rfl (by kernel_rfl) (by kernel_rfl) (fun w hSw => by (try dsimp only at hSw); go_simp; exact ⟨rfl, rfl⟩) ?_ ?_
  · intro w3 hSw
    refine (named w3 u (by have := HU.out; omega)).mono ?_
    rintro e w4 ⟨rfl, hb4⟩
    obtain ⟨d0, d1, d2⟩ := hSw
    have e2 := (hb4.block _ (Vd.lt_of_heap d2)).trans d2
    have e1 := (hb4.cell (p := ⟨bl, 0, none⟩) (Nat.lt_of_lt_of_le HBL.out d0.size)).trans d1
    have e0 := d0.trans (hb4.mono d0.size)
    exact ⟨rfl, e0, e1, e2⟩
  try simp only [Act.put, List.setIfInBounds_toArray, List.set_cons_zero, List.set_cons_succ]
  refine Seqo.light (v := ?_) rfl (by kernel_rfl) ?_ ?_
  rotate_left 1
  focus (intro w hSw; (try dsimp only at hSw); go_simp; try with_reducible rfl)
  try simp only [Act.put, List.setIfInBounds_toArray, List.set_cons_zero, List.set_cons_succ]
  refine Seqo.callw (fun v => ∃ b, v = .tuple #[.pointer (some ⟨b, 0, none⟩), .int .i64 0, .int .i64 0]) (fun v w' => (Below w.heap.size w w' ∧ w'.cell? ⟨bl, 0, none⟩ = some (.pointer (some ⟨bd, 0, none⟩)) ∧ w'.heap[w.heap.size]? = some (.cells #[.pointer none, .int .i64 0] 66 (0, 0))) ∧ ∀ b, v = .tuple #[.pointer (some ⟨b, 0, none⟩), .int .i64 0, .int .i64 0] → w.heap.size ≤ b ∧ SegIn w' b bd (nm u) u fs [] (.slice none 0 0)) rfl (by kernel_rfl) (by kernel_rfl) (fun w hSw => by (try dsimp only at hSw); go_simp; exact ⟨rfl, rfl⟩) ?_ (.inl fun v w h => h.1) ?_
  · intro w3 hSw
    refine (nm_open (HD.out.below hSw.1) u HU.out HNO.out).mono ?_
    rintro e w4 ⟨b, rfl, hlb, hsi, hb4⟩
    obtain ⟨d0, d1, d2⟩ := hSw
    have e2 := (hb4.block _ (Vd.lt_of_heap d2)).trans d2
    have e1 := (hb4.cell (p := ⟨bl, 0, none⟩) (Nat.lt_of_lt_of_le HBL.out d0.size)).trans d1
    have e0 := d0.trans (hb4.mono d0.size)
    refine ⟨_, rfl, ⟨b, rfl⟩, ⟨e0, e1, e2⟩, fun b' hb' => ?_⟩
    cases hb'
    exact ⟨Nat.le_trans d0.size hlb, hsi⟩
  rintro v ⟨b, rfl⟩
  try simp only [Act.put, List.setIfInBounds_toArray, List.set_cons_zero, List.set_cons_succ]
  refine Seqo.light (v := ?_) rfl (by kernel_rfl) ?_ ?_
  rotate_left 1
  focus (intro w hSw; (try dsimp only at hSw); go_simp; try with_reducible rfl)
  try simp only [Act.put, List.setIfInBounds_toArray, List.set_cons_zero, List.set_cons_succ]
  refine Seqo.light (v := ?_) rfl (by kernel_rfl) ?_ ?_
  rotate_left 1
  focus (intro w hSw; (try dsimp only at hSw); go_simp; try with_reducible rfl)
  try simp only [Act.put, List.setIfInBounds_toArray, List.set_cons_zero, List.set_cons_succ]
  refine Seqo.light (v := ?_) rfl (by kernel_rfl) ?_ ?_
  rotate_left 1
  focus (intro w hSw; (try dsimp only at hSw); go_simp; try with_reducible rfl)
  try simp only [Act.put, List.setIfInBounds_toArray, List.set_cons_zero, List.set_cons_succ]
  refine Seqo.light (v := ?_) rfl (by kernel_rfl) ?_ ?_
  rotate_left 1
  focus (intro w hSw; (try dsimp only at hSw); go_simp; try with_reducible rfl)
  try simp only [Act.put, List.setIfInBounds_toArray, List.set_cons_zero, List.set_cons_succ]
  refine Seqo.light (v := ?_) rfl (by kernel_rfl) ?_ ?_
  rotate_left 1
  focus (intro w hSw; (try dsimp only at hSw); go_simp; try with_reducible rfl)
  try simp only [Act.put, List.setIfInBounds_toArray, List.set_cons_zero, List.set_cons_succ]
  refine Seqo.light (v := ?_) rfl (by kernel_rfl) ?_ ?_
  rotate_left 1
  focus (intro w hSw; (try dsimp only at hSw); go_simp; try with_reducible rfl)
  try simp only [Act.put, List.setIfInBounds_toArray, List.set_cons_zero, List.set_cons_succ]
  refine Seqo.light (v := ?_) rfl (by kernel_rfl) ?_ ?_
  rotate_left 1
  focus (intro w hSw; (try dsimp only at hSw); go_simp; try with_reducible rfl)
  try simp only [Act.put, List.setIfInBounds_toArray, List.set_cons_zero, List.set_cons_succ]
  refine Seqo.nil fun w5 hS5 => ?_
  obtain ⟨⟨hb5, hc5, hh5⟩, hsi⟩ := hS5
  obtain ⟨hlb, hsi⟩ := hsi b rfl
  have HSI := Lib.hid hsi
  have HB5 := Lib.hid hb5
  have HLB := Lib.hid hlb
  obtain ⟨f0, f1⟩ := cells2 hh5
  have hfz := fun j => Lib.frozen_of_heap hh5 j
  have HH5 := Lib.hid hh5
  clear hsi hb5 hc5 hlb hh5
  go_wp2_with fail
  have hbne : b ≠ w.heap.size := by
    intro e
    have h1 := HSI.out.seg.cell
    rw [e, HH5.out] at h1
    simp at h1
  have hF : ((w5.setCell ⟨w.heap.size, 0, none⟩ (.pointer (some ⟨b, 0, none⟩))).setCell ⟨w.heap.size, 1, none⟩ (.int .i64 0)).heap[w.heap.size]? = some (.cells #[.pointer (some ⟨b, 0, none⟩), .int .i64 0] 66 (0, 0)) := (Vd.setCell_block (Vd.setCell_block HH5.out 0 _) 1 _).trans rfl
  have hFB : Below w.heap.size w ((w5.setCell ⟨w.heap.size, 0, none⟩ (.pointer (some ⟨b, 0, none⟩))).setCell ⟨w.heap.size, 1, none⟩ (.int .i64 0)) := (HB5.out.setCell (p := ⟨w.heap.size, 0, none⟩) (Nat.le_refl _) _).setCell (p := ⟨w.heap.size, 1, none⟩) (Nat.le_refl _) _
  have hFS : SegIn ((w5.setCell ⟨w.heap.size, 0, none⟩ (.pointer (some ⟨b, 0, none⟩))).setCell ⟨w.heap.size, 1, none⟩ (.int .i64 0)) b bd (nm u) u fs [] (.slice none 0 0) :=
    ⟨⟨(Rc.set_other _ _ _ _ hbne).trans ((Rc.set_other _ _ _ _ hbne).trans HSI.out.seg.cell), Vd.ownsRow_at HSI.out.seg.own fun k hk => by cases hk⟩, HSI.out.chain, HSI.out.good, HSI.out.file⟩
  generalize (w5.setCell ⟨w.heap.size, 0, none⟩ (.pointer (some ⟨b, 0, none⟩))).setCell ⟨w.heap.size, 1, none⟩ (.int .i64 0) = F at hF hFB hFS ⊢
  clear f0 f1 hfz
  obtain ⟨f0, f1⟩ := cells2 hF
  exact bodyPost_ret (v := .tuple #[.agg #[.pointer (some ⟨b, 0, none⟩), .int .i64 0], .int .i64 0]) (by simp [results, Tryz.results36, go_sem, *]) rfl ⟨b, rfl, HLB.out, hFS, hFB⟩
end
end Go.Proofs.YtcioejacijkbcaaGreatDoor.Lg
/- seglog: the manifest's text; Clone of parts. -/
namespace Go.Proofs.YtcioejacijkbcaaGreatDoor.Lg
open Go.RowKit Go.Maps Go.ChangeMaps Go.WideMaps Go.Proofs.YtcioejacijkbcaaGreatDoor.Vd Go.Proofs.YtcioejacijkbcaaGreatDoor.Sb Go.Proofs.YtcioejacijkbcaaGreatDoor.Rc Go.Proofs.YtcioejacijkbcaaGreatDoor.Rg Go.Proofs.YtcioejacijkbcaaGreatDoor.Sg
set_option linter.unusedVariables false
/-- the manifest of parts -/
def tx (ps : List Prt) : List UInt8 := ps.flatMap fun p => (ln p.base).data.toList
theorem tx_snoc (ps : List Prt) (p : Prt) : tx (ps ++ [p]) = tx ps ++ (ln p.base).data.toList := by simp [tx]
theorem tx_length (ps : List Prt) (h : ∀ p ∈ ps, p.base < 500) : (tx ps).length ≤ 6 * ps.length := by
  induction ps with
  | nil => exact Nat.le_refl _
  | cons p ps ih =>
    have e : tx (p :: ps) = (ln p.base).data.toList ++ tx ps := rfl
    have h4 := (ln_size p.base (by have := h p (by simp); omega)).2
    have h5 : (ln p.base).data.toList.length = (ln p.base).size := by rw [Array.length_toList]; rfl
    have h6 := ih fun q hq => h q (by simp [hq])
    rw [e, List.length_append, h5, List.length_cons]; omega
set_option maxRecDepth 100000 in
set_option maxHeartbeats 2000000 in
theorem l_text {w : World} {bd : Nat} {fs : List Fil} {v : Value} {ps : List Prt} (hr : Parts w v ps) (hn0 : 0 < ps.length) (hn : ps.length ≤ 1000) (hp : ∀ p ∈ ps, SegIn w p.bs bd (nm p.base) p.base fs p.xs p.mv) (hT : Tab w) (hbs : ∀ p ∈ ps, p.base < 500) :
    Calls Tryz.prog 46 #[v] w fun e w' => e = .returned (.string (str (tx ps))) ∧ Below w.heap.size w w' := by
  obtain ⟨g, cap, rfl⟩ := hr.form hn0
  have HR := Lib.hid hr
  have HPS := Lib.hid hp
  have HBS := Lib.hid hbs
  have HN := Lib.hid hn
  have HT := Lib.hid hT
  clear hr hp hbs hn hT
  go_enter Tryz.func46, Tryz.ntmps46
  go_wp2_with fail
  go_loopw [8] (fun i wr => ∃ k : Nat, i = .int .i64 k ∧ k ≤ ps.length ∧ Bld wr w.heap.size w.heap.size (tx (ps.take k)) ∧ Below w.heap.size w wr) (fun i _ => ps.length - (intOf i).toNat)
  case atStart =>
    exact ⟨0, rfl, by omega, Lib.fresh_isBuilder _ _ _, (Below.refl _ _).alloc (Nat.le_refl _) _⟩
  case round =>
    obtain ⟨k, rfl, hk, hB, hW⟩ := hrel
    have HB := Lib.hid hB
    have HW := Lib.hid hW
    clear hB hW
    by_cases hlt : k < ps.length
    · have hlt' : (k : Int) < (ps.length : Int) := by omega
      have hk0 : (0 : Int) ≤ (k : Int) := by omega
      obtain ⟨p, hpk⟩ : ∃ p, p = ps[k] := ⟨_, rfl⟩
      have hmem : p ∈ ps := by rw [hpk]; exact List.getElem_mem _
      have HP := Lib.hid (HPS.out p hmem)
      have HBA := Lib.hid (HBS.out p hmem)
      have hrr : Parts wr (.slice (some ⟨g, 0, none⟩) ps.length cap) ps := Vd.ownsRow_at HR.out fun j hj => HW.out.block j (World.ownsRow.lt HR.out j hj).2
      obtain ⟨_, g', hg', c0, c1⟩ := hrr.cell k hlt
      cases hg'
      rw [← hpk] at c0
      have htk : tx (ps.take (k + 1)) = tx (ps.take k) ++ (ln p.base).data.toList := by rw [List.take_succ_eq_append_getElem hlt, tx_snoc, hpk]
      have HTK := Lib.hid htk
      have HTL := Lib.hid (show (tx (ps.take k)).length ≤ 6000 by have h1 := tx_length (ps.take k) (fun q hq => HBS.out q (List.mem_of_mem_take hq)); rw [List.length_take] at h1; have := HN.out; omega)
      have HAL := Lib.hid (heap_alloc_new wr (.cells #[.pointer (some ⟨p.bs, 0, none⟩), .int .i64 0] 66))
      obtain ⟨a0, a1⟩ := cells2 HAL.out
      have HA := Lib.hid (And.intro a0 a1)
      have HB1 := Lib.hid (Bld_below HB.out ((Below.refl wr.heap.size wr).alloc (Nat.le_refl _) (.cells #[.pointer (some ⟨p.bs, 0, none⟩), .int .i64 0] 66)))
      have HW1 := Lib.hid (HW.out.alloc HW.out.size (.cells #[.pointer (some ⟨p.bs, 0, none⟩), .int .i64 0] 66))
      have hk9 : (k : Int) ≤ 1000 := by have := HN.out; omega
      clear hpk hmem hrr htk a0 a1
      go_upto_region 5 with (fail)
      clear c0 c1
      refine wp_region_seqo [0, 1, 2, 3, 4, 5, 6] (S := (fun w' => Bld w' w.heap.size w.heap.size (tx (ps.take k)) ∧ Below w.heap.size w w' ∧ w'.heap[wr.heap.size]? = some (.cells #[.pointer (some ⟨p.bs, 0, none⟩), .int .i64 0] 66 (0, 0)) ∧ w'.cell? ⟨wr.heap.size, 0, none⟩ = some (.pointer (some ⟨p.bs, 0, none⟩)) ∧ w'.cell? ⟨wr.heap.size, 1, none⟩ = some (.int .i64 0))) (by kernel_rfl) (by kernel_rfl) ⟨HB1.out, HW1.out.drew, HAL.out, HA.out.1, HA.out.2⟩ ?_
      refine Seqo.light (v := ?_) rfl (by kernel_rfl) ?_ ?_
      rotate_left 1
      focus (intro w hSw; (try dsimp only at hSw); go_simp; try with_reducible rfl)
      try simp only [Act.put, List.setIfInBounds_toArray, List.set_cons_zero, List.set_cons_succ]
      refine Seqo.light (v := ?_) rfl (by kernel_rfl) ?_ ?_
      rotate_left 1
      focus (intro w hSw; (try dsimp only at hSw); go_simp; try with_reducible rfl)
      try simp only [Act.put, List.setIfInBounds_toArray, List.set_cons_zero, List.set_cons_succ]
      refine Seqo.call (.int .i64 p.base) rfl (by kernel_rfl) (by kernel_rfl) (fun w hSw => by (try dsimp only at hSw); go_simp; exact ⟨rfl, rfl⟩) ?_ ?_
      · intro w3 hSw
        refine (base_yes (HP.out.below (hSw.2.1)).seg).mono ?_
        rintro e w4 ⟨rfl, rfl⟩
        exact ⟨rfl, hSw⟩
      try simp only [Act.put, List.setIfInBounds_toArray, List.set_cons_zero, List.set_cons_succ]
      refine Seqo.light (v := ?_) rfl (by kernel_rfl) ?_ ?_
      rotate_left 1
      focus (intro w hSw; (try dsimp only at hSw); go_simp; try with_reducible rfl)
      try simp only [Act.put, List.setIfInBounds_toArray, List.set_cons_zero, List.set_cons_succ]
      refine Seqo.light (v := ?_) rfl (by kernel_rfl) ?_ ?_
      rotate_left 1
      focus (intro w hSw; (try dsimp only at hSw); go_simp; try with_reducible rfl)
      try simp only [Act.put, List.setIfInBounds_toArray, List.set_cons_zero, List.set_cons_succ]
      refine Seqo.call (.string (ln p.base)) rfl (by kernel_rfl) (by kernel_rfl) (fun w hSw => by (try dsimp only at hSw); go_simp; exact ⟨rfl, rfl⟩) ?_ ?_
      · intro w3 hSw
        refine (listed w3 p.base (by have := HBA.out; omega) (.inl (HT.out.below hSw.2.1))).mono ?_
        rintro e w4 ⟨rfl, hb4⟩
        exact ⟨rfl, Bld_below hSw.1 hb4, hSw.2.1.trans (hb4.mono hSw.2.1.size), (hb4.block _ (Vd.lt_of_heap hSw.2.2.1)).trans hSw.2.2.1, (hb4.cell (p := ⟨wr.heap.size, 0, none⟩) (Vd.lt_of_heap hSw.2.2.1)).trans hSw.2.2.2.1, (hb4.cell (p := ⟨wr.heap.size, 1, none⟩) (Vd.lt_of_heap hSw.2.2.1)).trans hSw.2.2.2.2⟩
      try simp only [Act.put, List.setIfInBounds_toArray, List.set_cons_zero, List.set_cons_succ]
      refine Seqo.callw (fun v => v = .tuple #[.int .i64 (ln p.base).size, .nilIface]) (fun v w' => Bld w' w.heap.size w.heap.size (tx (ps.take k) ++ (ln p.base).data.toList) ∧ Below w.heap.size w w') rfl (by kernel_rfl) (by kernel_rfl) (fun w hSw => by (try dsimp only at hSw); go_simp; exact ⟨rfl, rfl⟩) ?_ (.inr (by kernel_rfl)) ?_
      · intro w3 hSw
        refine (Sb.writeString w.heap.size w.heap.size _ (ln p.base) w3 hSw.1 (by have := HTL.out; have h9 := (ln_size p.base (by have := HBA.out; omega)).2; omega) hSw.2.1.size).mono ?_
        rintro e w4 ⟨rfl, h1, h2, _⟩
        exact ⟨_, rfl, rfl, h1, hSw.2.1.trans h2⟩
      rintro v rfl
      try simp only [Act.put, List.setIfInBounds_toArray, List.set_cons_zero, List.set_cons_succ]
      refine Seqo.nil fun w5 hS5 => ?_
      obtain ⟨hb5, hw5⟩ := hS5
      have HB5 := Lib.hid hb5
      have HW5 := Lib.hid hw5
      clear hb5 hw5
      go_wp2
      go_roundw
      case rel => exact ⟨k + 1, by go_num, by omega, by rw [HTK.out]; exact HB5.out, HW5.out⟩
      case measure => simp [intOf]; omega
    · obtain rfl : k = ps.length := by omega
      have hlt' : ¬ (ps.length : Int) < (ps.length : Int) := by omega
      clear hlt
      rw [List.take_length] at HB
      go_wp2_with fail
      refine (Tryz.Builder_String_any w.heap.size w.heap.size (tx ps) wr HB.out HW.out.size).mono ?_
      rintro e w2 ⟨rfl, hb2⟩
      go_wp2
      go_ret
      exact ⟨rfl, HW.out.trans hb2⟩
/-- Clone of parts -/
def ren50 : Go.Shelf.Ren := ⟨fun | 41 => 50 | n => n, fun | 22 => 40 | 23 => 66 | 4 => 4 | n => n, fun | n => n⟩
theorem lays50 : Go.Proofs.SlLaysE0.n41 Tryz.prog ren50 := {
  mixed := by kernel_rfl
  f41 := ⟨Tryz.f50.name, by decide, Tryz.func50.trans (congrArg some (by kernel_rfl))⟩
  t4 := Tryz.underlying4
  a4 := Tryz.isAgg4
  z4 := Tryz.sizeOf4
  v4 := Tryz.zeroValue4
  t22 := Tryz.underlying40
  a22 := Tryz.isAgg40
  z22 := Tryz.sizeOf40
  v22 := Tryz.zeroValue40 }
theorem infoPt : ((Tryz.prog.info? 66).map fun i => (i.zero, i.size, i.bytes)) = some (some (.agg #[.pointer none, .int .i64 0]), 2, 16) := by kernel_rfl
theorem l_clone {w : World} {v : Value} {ps : List Prt} (hr : Parts w v ps) (hn0 : 0 < ps.length) (hn : ps.length ≤ 1000) :
    Calls Tryz.prog 50 #[v] w fun e w' => ∃ v', e = .returned v' ∧ w'.ownsRow w.heap.size 66 2 v' ps.length (ps.flatMap Prt.cells) ∧ Below w.heap.size w w' := by
  obtain ⟨g, cap, rfl⟩ := hr.form hn0
  obtain ⟨i0, hi, hz0, hz1, hz2⟩ := Bt.info_parts infoPt
  refine (AnyE.slices_Clone lays50 i0 _ 2 16 hi hz0 hz1 hz2 rfl (by decide) (fun w => by kernel_rfl) g 0 ps.length cap (ps.flatMap Prt.cells) w (pcells_length ps) (by unfold maxLen; omega) (by omega) ?_ ?_).mono ?_
  · intro j u hu
    have hj : j < ps.length * 2 := by rw [← pcells_length]; exact (List.getElem?_eq_some_iff.1 hu).1
    rw [Nat.zero_add, World.ownsRow.cellAt hr j hj]
    exact hu
  · intro u hu
    obtain ⟨p, _, hp⟩ := List.mem_flatMap.1 hu
    simp [Prt.cells] at hp
    rcases hp with rfl | rfl <;> rfl
  · rintro e w' ⟨v', rfl, h1, _, h2⟩
    exact ⟨v', rfl, h1, h2⟩
/-- one part more, in a region that draws -/
theorem step_append_part {w : World} {ops : Array Oper} {o : Oper} {a : Act} {K : Act → World → Prop} {Q : Exit → Act → World → Prop} {E : Prop} (hgd : o.guard = none) (s x : Operand)
    (ho : o.op = .call { callee := .builtin .append, args := #[s, x], argTypes := #[40, 40] })
    (base : Nat) (v : Value) (ps : List Prt) (hs : a.eval s = v) (hown : w.ownsRow base 66 2 v ps.length (ps.flatMap Prt.cells))
    (b : Nat) (r : Prt) (hx : a.eval x = .slice (some ⟨b, 0, none⟩) 1 1) (hc : w.heap[b]? = some (.cells #[.pointer (some ⟨r.bs, 0, none⟩), .int .i64 0] 66 (0, 0))) (hsz : ps.length ≤ 1048576) (hbase : base ≤ w.heap.size)
    (h : ∀ g cap w', w'.ownsRow base 66 2 (.slice (some ⟨g, 0, none⟩) (ps.length + 1) cap) (ps ++ [r]).length ((ps ++ [r]).flatMap Prt.cells) → w.grownBy w' v.ownBlock → (v.ownBlock = some g ∨ g = w.heap.size) → g < w'.heap.size → K (a.put o.dst (.slice (some ⟨g, 0, none⟩) (ps.length + 1) cap)) w') :
    if Region.wanted o (yielded ops a.tmps) = true then Oper.wp Tryz.prog o a w K Q else E := by
  obtain ⟨i0, hi, hz0, hz1, hz2⟩ := Bt.info_parts infoPt
  refine step_append_lies w hgd s x 40 ho base 66 i0 _ 2 16 Tryz.underlying40 hi hz0 hz1 hz2 rfl (by decide) v ps.length (ps.flatMap Prt.cells) hs hown ⟨b, 0, none⟩ 1 1 r.cells hx rfl ?_ ?_ (by decide) (by unfold maxLen; omega) (by omega) hbase w.heap.size rfl ?_
  · intro j u hu
    rw [add0, cell_of_row _ _ _ _ _ _ hc]
    have : j < 2 := (List.getElem?_eq_some_iff.1 hu).1
    rw [← hu]
    simp [Prt.cells]
  · intro u hu; simp [Prt.cells] at hu; rcases hu with rfl | rfl <;> rfl
  · intro g cap w' h1 h2 h3 h4
    exact h g cap w' (by simpa [Prt.cells] using h1) h2 h3 h4
end Go.Proofs.YtcioejacijkbcaaGreatDoor.Lg
/- seglog: what the disk's doing, and a new part, leave of a log; Sync. -/
namespace Go.Proofs.YtcioejacijkbcaaGreatDoor.Lg
open Go.RowKit Go.Maps Go.ChangeMaps Go.WideMaps Go.Proofs.YtcioejacijkbcaaGreatDoor.Vd Go.Proofs.YtcioejacijkbcaaGreatDoor.Rc Go.Proofs.YtcioejacijkbcaaGreatDoor.Rg Go.Proofs.YtcioejacijkbcaaGreatDoor.Sg
set_option linter.unusedVariables false
section
variable {w0 w w' : World} {F0 : Nat → Prop} {bl bd bm room limit : Nat} {fs fs' : List Fil} {v : Value} {ps : List Prt}
def own (bl : Nat) (v : Value) (ps : List Prt) : List Nat := bl :: (v.ownBlock.toList ++ ps.flatMap Prt.blocks)
theorem LogAt.lt (h : LogAt w0 F0 w bl bd bm room limit fs v ps) : ∀ k ∈ own bl v ps, k < w.heap.size := by
  intro k hk
  simp only [own, List.mem_cons, List.mem_append, List.mem_flatMap, Option.mem_toList] at hk
  rcases hk with rfl | hk | ⟨p, hp, hk⟩
  · exact Vd.lt_of_heap h.cell
  · exact (World.ownsRow.lt h.row k hk).2
  · simp only [Prt.blocks, List.mem_cons, Option.mem_toList] at hk
    rcases hk with rfl | hk
    · exact Vd.lt_of_heap (h.part p hp).seg.cell
    · exact (World.ownsRow.lt (h.part p hp).seg.own k hk).2
theorem mem_own_bs {p : Prt} (hp : p ∈ ps) : p.bs ∈ own bl v ps := by
  simp only [own, List.mem_cons, List.mem_append, List.mem_flatMap]
  exact .inr (.inr ⟨p, hp, by simp [Prt.blocks]⟩)
theorem mem_own_mv {p : Prt} (hp : p ∈ ps) {k : Nat} (hk : p.mv.ownBlock = some k) : k ∈ own bl v ps := by
  simp only [own, List.mem_cons, List.mem_append, List.mem_flatMap]
  exact .inr (.inr ⟨p, hp, by simp [Prt.blocks, hk]⟩)
theorem SegIn.evolved {bs : Nat} {name : ByteArray} {base : Nat} {xs : List Sg.Bat} {mv : Value} (h : SegIn w bs bd name base fs xs mv) (hE : Evolves w w' bd bm room fs fs') (h1 : ¬ DiskB bd bm fs bs) (h2 : ∀ k, mv.ownBlock = some k → ¬ DiskB bd bm fs k) (hl : look fs' name = look fs name) : SegIn w' bs bd name base fs' xs mv :=
  ⟨h.seg.evolved hE h1 h2, h.chain, h.good, by rw [hl]; exact h.file⟩
/-- the disk's doing -/
theorem LogAt.step (h : LogAt w0 F0 w bl bd bm room limit fs v ps) (hE : Evolves w w' bd bm room fs fs') (hl : ∀ p ∈ ps, look fs' (nm p.base) = look fs (nm p.base)) : LogAt w0 F0 w' bl bd bm room limit fs' v ps := by
  have hlt := h.lt
  refine ⟨hE.disk, (hE.touch.block bl (hlt bl (by simp [own])) (h.dsk bl (by simp))).trans h.cell, Vd.ownsRow_at h.row fun k hk => hE.touch.block k (World.ownsRow.lt h.row k hk).2 (h.dsk k (by simp [hk])), ?_, h.bases, h.nodup, h.apart, ?_, ?_, ?_, h.tab⟩
  · intro p hp
    exact (h.part p hp).evolved hE (h.dsk _ (mem_own_bs (v := v) (bl := bl) hp)) (fun k hk => h.dsk _ (mem_own_mv (v := v) (bl := bl) hp hk)) (hl p hp)
  · intro k hk hD
    rcases hE.new k hD with h1 | h1
    · exact h.dsk k hk h1
    · have := hlt k hk; omega
  · intro k hk
    rcases hk with hk | hk
    · exact h.ge k (.inl hk)
    · rcases hE.new k hk with h1 | h1
      · exact h.ge k (.inr h1)
      · exact .inr (Nat.le_trans h.below.size h1)
  · exact h.below.trans hE.touch fun k hk => h.ge k (.inr hk)
/-- another row of parts, with one more -/
theorem LogAt.add (h : LogAt w0 F0 w bl bd bm room limit fs v ps) (p : Prt) (v' : Value) (g : Nat) (hg : v'.ownBlock = some g) (hrow : Parts w v' (ps ++ [p])) (hp : SegIn w p.bs bd (nm p.base) p.base fs p.xs p.mv) (hpb : p.base < 500) (hnew : p.base ∉ ps.map Prt.base) (hmv : p.mv.ownBlock = none)
    (hgp : g ≠ p.bs) (h1 : g ∉ own bl v ps) (h2 : p.bs ∉ own bl v ps) (h3 : ¬ DiskB bd bm fs g) (h4 : ¬ DiskB bd bm fs p.bs) (h5 : F0 g ∨ w0.heap.size ≤ g) (h6 : F0 p.bs ∨ w0.heap.size ≤ p.bs) :
    LogAt w0 F0 (w.setCell ⟨bl, 2, none⟩ v') bl bd bm room limit fs v' (ps ++ [p]) := by
  have hlt := h.lt
  have hbl : bl ∈ own bl v ps := by simp [own]
  have hgbl : g ≠ bl := fun e => h1 (e ▸ hbl)
  have hother : ∀ k, k ≠ bl → (w.setCell ⟨bl, 2, none⟩ v').heap[k]? = w.heap[k]? := fun k hk => Rc.set_other _ _ _ _ hk
  have hdb : ∀ k, DiskB bd bm fs k → k ≠ bl := fun k hk e => h.dsk bl (by simp) (e ▸ hk)
  have hap := h.apart
  rw [List.nodup_cons] at hap
  obtain ⟨ha1, ha2⟩ := hap
  rw [List.nodup_append] at ha2
  obtain ⟨_, ha3, _⟩ := ha2
  have hmem : ∀ k, k ∈ ps.flatMap Prt.blocks → k ∈ own bl v ps := fun k hk => by simp only [own, List.mem_cons, List.mem_append]; exact .inr (.inr hk)
  have hblk : (ps ++ [p]).flatMap Prt.blocks = ps.flatMap Prt.blocks ++ [p.bs] := by simp [Prt.blocks, hmv]
  have hown : ∀ k, k ∈ bl :: (v'.ownBlock.toList ++ (ps ++ [p]).flatMap Prt.blocks) → k = bl ∨ k = g ∨ k ∈ ps.flatMap Prt.blocks ∨ k = p.bs := by
    intro k hk
    rw [hblk, hg] at hk
    simpa using hk
  refine ⟨h.disk.kept fun k hk => hother k (hdb k hk), (Vd.setCell_block h.cell 2 _).trans rfl, Vd.ownsRow_at hrow fun k hk => hother k (by rw [hg] at hk; cases hk; exact hgbl), ?_, ?_, ?_, ?_, ?_, ?_, ?_, h.tab⟩
  · intro q hq
    rcases List.mem_append.1 hq with hq | hq
    · have hs := h.part q hq
      exact ⟨⟨(hother _ (fun e => ha1 (by rw [← e]; simp only [List.mem_append, List.mem_flatMap]; exact .inr ⟨q, hq, by simp [Prt.blocks]⟩))).trans hs.seg.cell, Vd.ownsRow_at hs.seg.own fun k hk => hother k (fun e => ha1 (by rw [← e]; simp only [List.mem_append, List.mem_flatMap]; exact .inr ⟨q, hq, by simp [Prt.blocks, hk]⟩))⟩, hs.chain, hs.good, hs.file⟩
    · simp only [List.mem_singleton] at hq
      subst hq
      exact ⟨⟨(hother _ (fun e => h2 (by rw [e]; exact hbl))).trans hp.seg.cell, Vd.ownsRow_at hp.seg.own fun k hk => by rw [hmv] at hk; cases hk⟩, hp.chain, hp.good, hp.file⟩
  · intro q hq
    rcases List.mem_append.1 hq with hq | hq
    · exact h.bases q hq
    · simp only [List.mem_singleton] at hq; subst hq; exact hpb
  · rw [List.map_append, List.nodup_append]
    refine ⟨h.nodup, by simp, ?_⟩
    intro a ha b hb e
    simp at hb
    subst hb
    subst e
    exact hnew ha
  · rw [hblk, hg]
    simp only [Option.toList_some, List.singleton_append, List.nodup_cons, List.mem_cons, List.mem_append, List.not_mem_nil, or_false, not_or, List.nodup_append]
    refine ⟨⟨fun e => hgbl e.symm, fun hk => ha1 (by simp only [List.mem_append]; exact .inr hk), fun e => h2 (by rw [← e]; exact hbl)⟩, ⟨fun hk => h1 (hmem g hk), hgp⟩, ha3, ⟨by simp, by simp⟩, ?_⟩
    rintro a ha b rfl e
    rw [e] at ha
    exact h2 (hmem _ ha)
  · intro k hk
    rcases hown k hk with rfl | rfl | hk | rfl
    · exact h.dsk _ (by simp)
    · exact h3
    · exact h.dsk k (hmem k hk)
    · exact h4
  · intro k hk
    rcases hk with hk | hk
    · rcases hown k hk with rfl | rfl | hk | rfl
      · exact h.ge _ (.inl (by simp))
      · exact h5
      · exact h.ge k (.inl (hmem k hk))
      · exact h6
    · exact h.ge k (.inr hk)
  · exact h.below.trans (Vd.Touch.set (F := fun k => k = bl) w ⟨bl, 2, none⟩ v' rfl) (fun x hx => by rw [hx]; exact h.ge bl (.inl (by simp)))
set_option maxRecDepth 100000 in
theorem seg_sync {bs : Nat} {name : ByteArray} {base : Nat} {xs : List Sg.Bat} {mv : Value} (D : DiskAt w bd bm room fs) (h : SegIn w bs bd name base fs xs mv) (l : List UInt8) (hl : look fs name = some l) :
    Calls Tryz.prog 45 #[.pointer (some ⟨bs, 0, none⟩)] w fun e w' => e = .returned (.int .i64 0) ∧ ∃ fs', Evolves w w' bd bm room fs fs' ∧ (∀ n, look fs' n = look fs n) ∧ total fs' = total fs ∧ fs'.length = fs.length := by
  obtain ⟨c0, c1, c2, c3, c4, c5, c6⟩ := cells7 h.seg.cell
  have HS := Lib.hid (fun (W : World) (hW : Below w.heap.size w W) => d_sync (D.below hW) name l hl)
  clear D h hl
  go_enter Tryz.func45, Tryz.ntmps45
  go_wp2_with fail
  refine (given_yes _ bs _ c0).mono ?_
  rintro e w1 ⟨rfl, rfl⟩
  go_upto_region 3 with (fail)
  have HR0 := Lib.hid ((Below.refl w.heap.size w).drew)
  refine wp_region_seqo [0, 1, 2, 3, 4, 5, 6, 7, 8] (S := (fun w' => Below w.heap.size w w' ∧ w'.cell? ⟨bs, 0, none⟩ = some (.pointer (some ⟨bd, 0, none⟩)) ∧ w'.cell? ⟨bs, 1, none⟩ = some (.string name))) (by kernel_rfl) (by kernel_rfl) ⟨HR0.out, c0, c1⟩ ?_
  refine Seqo.light (v := ?_) rfl (by kernel_rfl) ?_ ?_
  rotate_left 1
  focus (intro w hSw; (try dsimp only at hSw); go_simp; try with_reducible rfl)
  try simp only [Act.put, List.setIfInBounds_toArray, List.set_cons_zero, List.set_cons_succ]
  refine Seqo.light (v := ?_) rfl (by kernel_rfl) ?_ ?_
  rotate_left 1
  focus (intro w hSw; (try dsimp only at hSw); go_simp; try with_reducible rfl)
  try simp only [Act.put, List.setIfInBounds_toArray, List.set_cons_zero, List.set_cons_succ]
  refine Seqo.light (v := ?_) rfl (by kernel_rfl) ?_ ?_
  rotate_left 1
  focus (intro w hSw; (try dsimp only at hSw); go_simp; try with_reducible rfl)
  try simp only [Act.put, List.setIfInBounds_toArray, List.set_cons_zero, List.set_cons_succ]
  refine Seqo.light (v := ?_) rfl (by kernel_rfl) ?_ ?_
  rotate_left 1
  focus (intro w hSw; (try dsimp only at hSw); go_simp; try with_reducible rfl)
  try simp only [Act.put, List.setIfInBounds_toArray, List.set_cons_zero, List.set_cons_succ]
  refine Seqo.light (v := ?_) rfl (by kernel_rfl) ?_ ?_
  rotate_left 1
  focus (intro w hSw; (try dsimp only at hSw); go_simp; try with_reducible rfl)
  try simp only [Act.put, List.setIfInBounds_toArray, List.set_cons_zero, List.set_cons_succ]
  refine Seqo.light (v := ?_) rfl (by kernel_rfl) ?_ ?_
  rotate_left 1
  focus (intro w hSw; (try dsimp only at hSw); go_simp; try with_reducible rfl)
  try simp only [Act.put, List.setIfInBounds_toArray, List.set_cons_zero, List.set_cons_succ]
  refine Seqo.light (v := ?_) rfl (by kernel_rfl) ?_ ?_
  rotate_left 1
  focus (intro w hSw; (try dsimp only at hSw); go_simp; try with_reducible rfl)
  try simp only [Act.put, List.setIfInBounds_toArray, List.set_cons_zero, List.set_cons_succ]
  refine Seqo.light (v := ?_) rfl (by kernel_rfl) ?_ ?_
  rotate_left 1
  focus (intro w hSw; (try dsimp only at hSw); go_simp; try with_reducible rfl)
  try simp only [Act.put, List.setIfInBounds_toArray, List.set_cons_zero, List.set_cons_succ]
  refine Seqo.callw (fun v => v = .int .i64 0) (fun v w' => ∃ W fs', Below w.heap.size w W ∧ Evolves W w' bd bm room fs fs' ∧ (∀ n, look fs' n = look fs n) ∧ total fs' = total fs ∧ fs'.length = fs.length) rfl (by kernel_rfl) (by kernel_rfl) (fun w hSw => by (try dsimp only at hSw); go_simp; exact ⟨rfl, rfl⟩) ?_ (.inr (by kernel_rfl)) ?_
  · intro w3 hSw
    refine (HS.out w3 hSw.1).mono ?_
    rintro e w4 ⟨rfl, fs', h1⟩
    exact ⟨_, rfl, rfl, w3, fs', hSw.1, h1⟩
  rintro v rfl
  try simp only [Act.put, List.setIfInBounds_toArray, List.set_cons_zero, List.set_cons_succ]
  refine Seqo.nil fun w5 hS5 => ?_
  obtain ⟨W, fs', hbW, hE, h2⟩ := hS5
  have HF := Lib.hid (And.intro hbW (And.intro hE h2))
  clear hbW hE h2 c0 c1 c2 c3 c4 c5 c6
  go_wp2
  go_ret
  obtain ⟨hbW, hE, h2⟩ := HF.out
  exact ⟨rfl, fs', ⟨hE.disk, (Vd.Touch.ofBelow (F := DiskB bd bm fs) hbW).trans hE.touch (fun x hx => .inl hx), fun k hk => by
    rcases hE.new k hk with h | h
    · exact .inl h
    · exact .inr (Nat.le_trans hbW.size h)⟩, h2⟩
end
end Go.Proofs.YtcioejacijkbcaaGreatDoor.Lg
/- seglog: rolls. -/
namespace Go.Proofs.YtcioejacijkbcaaGreatDoor.Lg
open Go.RowKit Go.Maps Go.ChangeMaps Go.WideMaps Go.Proofs.YtcioejacijkbcaaGreatDoor.Vd Go.Proofs.YtcioejacijkbcaaGreatDoor.Rc Go.Proofs.YtcioejacijkbcaaGreatDoor.Rg Go.Proofs.YtcioejacijkbcaaGreatDoor.Sg
set_option linter.unusedVariables false
theorem ownsRow_low {w : World} {base base' size n : Nat} {e : TypeId} {v : Value} {xs : List Value} (h : w.ownsRow base e size v n xs) (hb : base' ≤ base) : w.ownsRow base' e size v n xs := by
  obtain ⟨h1, h2⟩ := h
  refine ⟨h1, ?_⟩
  rcases h2 with h2 | ⟨g, cap, cur, rfl, hg, h5⟩
  · exact .inl h2
  · exact .inr ⟨g, cap, cur, rfl, Nat.le_trans hb hg, h5⟩
section
variable {w0 w w' : World} {F0 : Nat → Prop} {bl bd bm room limit : Nat} {fs fs' : List Fil} {v : Value} {ps qs : List Prt}
set_option maxRecDepth 100000 in
set_option maxHeartbeats 4000000 in
theorem l_rolls (h : LogAt w0 F0 w bl bd bm room limit fs v ps) (p : Prt) (hps : ps = qs ++ [p]) (u : Nat) (hu : endOf p.base p.xs = u) (hu3 : u < 500) (hnew : u ∉ ps.map Prt.base) (hno : look fs (nm u) = none) (hfr : look fs fresh = none) (l : List UInt8) (hl : look fs (nm p.base) = some l)
    (hlen : fs.length < 256) (hr : total fs + 6 * (ps.length + 1) ≤ room) (hn : ps.length ≤ 900) :
    Calls Tryz.prog 25 #[.pointer (some ⟨bl, 0, none⟩)] w fun e w' => e = .returned (.int .i64 0) ∧ ∃ fs' v' b, LogAt w0 F0 w' bl bd bm room limit fs' v' (ps ++ [⟨b, u, [], .slice none 0 0⟩]) ∧
      look fs' man = some (tx (ps ++ [⟨b, u, [], .slice none 0 0⟩])) ∧ look fs' fresh = none ∧ (∀ n, n ≠ man → n ≠ fresh → look fs' n = look fs n) ∧ total fs' ≤ total fs + 6 * (ps.length + 1) ∧ fs'.length ≤ fs.length + 1 := by
  have hmem : p ∈ ps := by rw [hps]; simp
  have hn0 : 0 < ps.length := by rw [hps]; simp
  have H0 := Lib.hid h
  have HLA := Lib.hid (l_last h p qs hps (by omega))
  have HF := Lib.hid (And.intro hnew (And.intro hno (And.intro hfr (And.intro hl (And.intro hlen (And.intro hr hn))))))
  have HPS := Lib.hid hps
  have HU := Lib.hid hu
  have HU3 := Lib.hid hu3
  have HM := Lib.hid hmem
  have HN0 := Lib.hid hn0
  have hfp := fun W a => field_part W a 0
  clear h hps hu hu3 hnew hno hfr hl hlen hr hn hmem hn0
  go_enter Tryz.func25, Tryz.ntmps25
  go_wp2_with fail
  refine HLA.out.mono ?_
  rintro e w1 ⟨rfl, hb1⟩
  have H1 := Lib.hid (H0.out.more hb1)
  clear hb1
  go_wp2_with fail
  refine (seg_sync H1.out.disk (H1.out.part p HM.out) l HF.out.2.2.2.1).mono ?_
  rintro e w2 ⟨rfl, fs2, hE2, k1, k2, k3⟩
  have H2 := Lib.hid (H1.out.step hE2 fun q hq => k1 _)
  have HK := Lib.hid (And.intro k1 (And.intro k2 k3))
  clear hE2 k1 k2 k3
  go_wp2_with fail
  refine (l_end H2.out p qs HPS.out (by have := HF.out.2.2.2.2.2.2; omega)).mono ?_
  rintro e w3 ⟨rfl, hb3⟩
  have H3 := Lib.hid (H2.out.more hb3)
  clear hb3
  rw [HU.out]
  go_wp2_with fail
  refine (l_opens H3.out.disk (cells3 H3.out.cell).1 u HU3.out (by rw [HK.out.1]; exact HF.out.2.1)).mono ?_
  rintro e w4 ⟨b, rfl, hlb, hsi, hb4⟩
  have H4 := Lib.hid (H3.out.more hb4)
  have HSI := Lib.hid hsi
  have HB := Lib.hid (And.intro hlb (Vd.lt_of_heap hsi.seg.cell))
  have HBO := Lib.hid (show b ∉ own bl v ps from fun hk => by have := H3.out.lt b hk; omega)
  have HBD := Lib.hid (show ¬ DiskB bd bm fs2 b from fun hk => by have := H3.out.disk.lt b hk; omega)
  have HBG := Lib.hid (show F0 b ∨ w0.heap.size ≤ b from .inr (Nat.le_trans H3.out.below.size hlb))
  clear hlb hsi hb4
  have hb5 := (Below.refl w4.heap.size w4).alloc (Nat.le_refl _) (.cells #[.pointer (some ⟨b, 0, none⟩), .int .i64 0] 66)
  have H5 := Lib.hid (H4.out.more hb5)
  have HSI5 := Lib.hid (HSI.out.below hb5)
  have HT5 := Lib.hid (heap_alloc_new w4 (.cells #[.pointer (some ⟨b, 0, none⟩), .int .i64 0] 66))
  clear hb5
  go_upto_region 5 with (fail)
  obtain ⟨g, cap, rfl⟩ := H5.out.row.form HN0.out
  generalize hw5 : w4.alloc (.cells #[.pointer (some ⟨b, 0, none⟩), .int .i64 0] 66) = w5 at H5 HSI5 HT5 ⊢
  have HL5 := Lib.hid (show bl < w5.heap.size ∧ w4.heap.size < w5.heap.size from ⟨Vd.lt_of_heap H5.out.cell, Vd.lt_of_heap HT5.out⟩)
  have HW45 := Lib.hid (show w4.heap.size ≤ w5.heap.size from Nat.le_of_lt HL5.out.2)
  clear hw5
  obtain ⟨y0, y1, y2⟩ := cells3 H5.out.cell
  obtain ⟨t0, t1⟩ := cells2 HT5.out
  have hbA := (Below.refl w5.heap.size w5).alloc (Nat.le_refl _) (.cells #[.pointer (some ⟨b, 0, none⟩), .int .i64 0] 66)
  have HA := Lib.hid (H5.out.more hbA)
  have hTA := (hbA.block _ (Vd.lt_of_heap HT5.out)).trans HT5.out
  have HNA := Lib.hid (heap_alloc_new w5 (.cells #[.pointer (some ⟨b, 0, none⟩), .int .i64 0] 66))
  have HBA := Lib.hid hbA
  have HTA := Lib.hid hTA
  obtain ⟨z0, z1, z2⟩ := cells3 HA.out.cell
  obtain ⟨s0, s1⟩ := cells2 hTA
  clear hbA hTA
  go_region_law (first | (go_simp; go_at_call 50; go_loud (refine (l_clone (by first | exact H5.out.row | exact HA.out.row) HN0.out (by have := HF.out.2.2.2.2.2.2; omega)).mono ?_; rintro e w7 ⟨v1, rfl, ho, hb⟩; obtain ⟨g1, c1, hv1, _, _⟩ := World.ownsRow.form ho HN0.out; subst hv1; have HO7 := Lib.hid (ownsRow_low ho (show w5.heap.size ≤ _ from by first | exact Nat.le_refl _ | exact HBA.out.size)); have HB7 := Lib.hid (show Below w5.heap.size w5 w7 from by first | exact ((Below.refl w5.heap.size w5).drew).trans hb | exact (HBA.out.drew).trans (hb.mono HBA.out.size)); have p0 : w7.cell? ⟨w4.heap.size, 0, none⟩ = some (.pointer (some ⟨b, 0, none⟩)) := (HB7.out.cell (p := ⟨w4.heap.size, 0, none⟩) HL5.out.2).trans t0; have p1 : w7.cell? ⟨w4.heap.size, 1, none⟩ = some (.int .i64 0) := (HB7.out.cell (p := ⟨w4.heap.size, 1, none⟩) HL5.out.2).trans t1; try have HPB := Lib.hid ((hb.block _ (Vd.lt_of_heap HNA.out)).trans HNA.out); clear ho hb)) | (go_loud (refine step_append_part rfl (.tmp 25) (.tmp 27) rfl w5.heap.size (.slice (some ⟨g1, 0, none⟩) ps.length c1) ps (by simp [Act.eval, Act.put]) (World.ownsRow.alloc HO7.out (.cells #[.pointer (some ⟨b, 0, none⟩), .int .i64 0] 66)) w7.heap.size (Prt.mk b u [] (.slice none 0 0)) (by simp [Act.eval, Act.put]) (heap_alloc_new w7 (.cells #[.pointer (some ⟨b, 0, none⟩), .int .i64 0] 66)) (by have := HF.out.2.2.2.2.2.2; omega) (Nat.le_trans HB7.out.size (by simp)) ?_; intro g3 c3 w8 ho8 hg8 hv8 hl8; have HB8 := Lib.hid ((HB7.out.alloc HB7.out.size (.cells #[.pointer (some ⟨b, 0, none⟩), .int .i64 0] 66)).grown hg8 (Nat.le_trans HB7.out.size (by simp)) (fun k hk => (World.ownsRow.lt HO7.out k hk).1)); have HO8 := Lib.hid ho8; clear ho8 hg8 hv8 hl8)) | (go_loud (refine step_append_part rfl (.tmp 25) (.tmp 27) rfl w5.heap.size (.slice (some ⟨g1, 0, none⟩) ps.length c1) ps (by simp [Act.eval, Act.put]) HO7.out w5.heap.size (Prt.mk b u [] (.slice none 0 0)) (by simp [Act.eval, Act.put]) HPB.out (by have := HF.out.2.2.2.2.2.2; omega) HB7.out.size ?_; intro g3 c3 w8 ho8 hg8 hv8 hl8; have HB8 := Lib.hid (HB7.out.grown hg8 HB7.out.size (fun k hk => (World.ownsRow.lt HO7.out k hk).1)); have HO8 := Lib.hid ho8; clear ho8 hg8 hv8 hl8)))
  all_goals
    have H8 := Lib.hid (H5.out.more HB8.out)
    have HSI8 := Lib.hid (HSI5.out.below HB8.out)
    have HR := Lib.hid (show Parts w8 (.slice (some ⟨g3, 0, none⟩) (ps.length + 1) c3) (ps ++ [Prt.mk b u [] (.slice none 0 0)]) from ownsRow_low HO8.out (Nat.zero_le _))
    have HG3 := Lib.hid (show w5.heap.size ≤ g3 ∧ g3 < w8.heap.size from World.ownsRow.lt HO8.out g3 rfl)
    have HLEN := Lib.hid (show (ps ++ [Prt.mk b u [] (.slice none 0 0)]).length = ps.length + 1 from by simp)
    have HTX := Lib.hid (show (str (tx (ps ++ [Prt.mk b u [] (.slice none 0 0)]))).size ≤ 6 * (ps.length + 1) from by show (tx _).toArray.size ≤ _; rw [List.size_toArray]; have h9 := tx_length (ps ++ [Prt.mk b u [] (.slice none 0 0)]) (fun q hq => by rcases List.mem_append.1 hq with hq | hq; exact H8.out.bases q hq; simp only [List.mem_singleton] at hq; subst hq; exact HU3.out); rw [HLEN.out] at h9; exact h9)
    clear y0 y1 y2 t0 t1 z0 z1 z2 s0 s1
    try clear p0 p1
    go_wp2_with fail
    refine (l_text HR.out (by simp) (by rw [HLEN.out]; have := HF.out.2.2.2.2.2.2; omega) (fun q hq => by
      rcases List.mem_append.1 hq with hq | hq
      · exact H8.out.part q hq
      · simp only [List.mem_singleton] at hq; subst hq; exact HSI8.out) H8.out.tabAt (fun q hq => by
      rcases List.mem_append.1 hq with hq | hq
      · exact H8.out.bases q hq
      · simp only [List.mem_singleton] at hq; subst hq; exact HU3.out)).mono ?_
    rintro e w9 ⟨rfl, hb9⟩
    have H9 := Lib.hid (H8.out.more hb9)
    have HSI9 := Lib.hid (HSI8.out.below hb9)
    have HR9 := Lib.hid (show Parts w9 (.slice (some ⟨g3, 0, none⟩) (ps.length + 1) c3) (ps ++ [Prt.mk b u [] (.slice none 0 0)]) from Vd.ownsRow_at HR.out fun k hk => hb9.block k (World.ownsRow.lt HR.out k hk).2)
    have HG9 := Lib.hid (show g3 < w9.heap.size from Nat.lt_of_lt_of_le HG3.out.2 hb9.size)
    clear hb9
    go_wp2_with fail
    refine (l_writes H9.out.disk 0 (cells3 H9.out.cell).1 (H9.out.dsk bl (by simp)) (by rw [HK.out.1]; exact HF.out.2.2.1) _ (by rw [HK.out.2.2]; exact HF.out.2.2.2.2.1) (by have h8 := HTX.out; have h9 := HF.out.2.2.2.2.2.1; have h7 := HK.out.2.1; omega)).mono ?_
    rintro e w10 ⟨rfl, fs', hW⟩
    have HW := Lib.hid hW
    have H10 := Lib.hid (H9.out.step hW.ev fun q hq => hW.other _ (nm_ne _).1 (nm_ne _).2)
    have HSI10 := Lib.hid (HSI9.out.evolved hW.ev HBD.out (fun k hk => by cases hk) (hW.other _ (nm_ne _).1 (nm_ne _).2))
    have HGD := Lib.hid (show ¬ DiskB bd bm fs2 g3 from fun hk => by have h1 := H5.out.disk.lt g3 hk; have h2 := HG3.out.1; omega)
    have HR10 := Lib.hid (show Parts w10 (.slice (some ⟨g3, 0, none⟩) (ps.length + 1) c3) (ps ++ [Prt.mk b u [] (.slice none 0 0)]) from Vd.ownsRow_at HR9.out fun k hk => by
      have : k = g3 := by simp [Value.ownBlock] at hk; exact hk.symm
      subst this
      exact hW.ev.touch.block _ HG9.out HGD.out)
    clear hW
    obtain ⟨x0, x1, x2⟩ := cells3 H10.out.cell
    have hfz := fun j => Lib.frozen_of_heap H10.out.cell j
    go_wp2_with fail
    go_ret
    refine ⟨rfl, fs', _, b, H10.out.add (Prt.mk b u [] (.slice none 0 0)) _ g3 rfl HR10.out HSI10.out HU3.out HF.out.1 rfl ?_ ?_ HBO.out ?_ ?_ ?_ HBG.out, ?_, HW.out.f, fun n h1 h2 => (HW.out.other n h1 h2).trans (HK.out.1 n), ?_, ?_⟩
    · intro e; have h1 : g3 = b := e; have h2 := HB.out.2; have h3 := HG3.out.1; have h4 := HW45.out; omega
    · intro hk; have h1 := H5.out.lt g3 hk; have h2 := HG3.out.1; omega
    · intro hk
      rcases HW.out.ev.new g3 hk with h1 | h1
      · exact HGD.out h1
      · have h2 := HG9.out; omega
    · intro hk
      rcases HW.out.ev.new b hk with h1 | h1
      · exact HBD.out h1
      · have h2 := Vd.lt_of_heap HSI9.out.seg.cell; omega
    · exact .inr (Nat.le_trans H5.out.below.size HG3.out.1)
    · rw [HW.out.m]; simp [str]
    · have h1 := HW.out.tot; have h2 := HK.out.2.1; have h3 := HTX.out; omega
    · have h1 := HW.out.few; have h2 := HK.out.2.2; omega
end
end Go.Proofs.YtcioejacijkbcaaGreatDoor.Lg
/- seglog: Append into the last part. -/
namespace Go.Proofs.YtcioejacijkbcaaGreatDoor.Lg
open Go.RowKit Go.Maps Go.ChangeMaps Go.WideMaps Go.Proofs.YtcioejacijkbcaaGreatDoor.Vd Go.Proofs.YtcioejacijkbcaaGreatDoor.Rc Go.Proofs.YtcioejacijkbcaaGreatDoor.Rg Go.Proofs.YtcioejacijkbcaaGreatDoor.Sg
set_option linter.unusedVariables false
section
variable {w0 w w' : World} {F0 : Nat → Prop} {bl bd bm room limit : Nat} {fs fs' : List Fil} {v : Value} {ps qs : List Prt}
def Prt.more (p : Prt) (x : Sg.Bat) (mv' : Value) : Prt := ⟨p.bs, p.base, p.xs ++ [x], mv'⟩
theorem LogAt.grew {p : Prt} (h : LogAt w0 F0 w bl bd bm room limit fs v (qs ++ [p])) {x : Sg.Bat} {mv' : Value} (G : Grew w w' p.bs bd bm room (nm p.base) p.base fs p.xs p.mv x fs' mv') :
    LogAt w0 F0 w' bl bd bm room limit fs' v (qs ++ [p.more x mv']) := by
  have hlt := h.lt
  have hap := h.apart
  have hsplit : (qs ++ [p]).flatMap Prt.blocks = qs.flatMap Prt.blocks ++ (p.bs :: p.mv.ownBlock.toList) := by simp [Prt.blocks]
  have hsplit' : (qs ++ [p.more x mv']).flatMap Prt.blocks = qs.flatMap Prt.blocks ++ (p.bs :: mv'.ownBlock.toList) := by simp [Prt.blocks, Prt.more]
  rw [hsplit] at hap
  rw [List.nodup_cons, List.nodup_append, List.nodup_append] at hap
  obtain ⟨n1, n2, ⟨n3, n4, n5⟩, n6⟩ := hap
  rw [List.nodup_cons] at n4
  have hpm : p ∈ qs ++ [p] := by simp
  have htouch : ∀ k, k ∈ own bl v (qs ++ [p]) → k ≠ p.bs → p.mv.ownBlock ≠ some k → w'.heap[k]? = w.heap[k]? := by
    intro k hk h1 h2
    refine G.touch.block k (hlt k hk) ?_
    rintro (h3 | h3 | h3)
    · exact h1 h3
    · exact h2 h3
    · exact h.dsk k hk h3
  have hbl1 : bl ≠ p.bs := fun e => n1 (by rw [e]; simp)
  have hbl2 : p.mv.ownBlock ≠ some bl := fun e => n1 (by simp [e])
  have hv1 : ∀ k, v.ownBlock = some k → k ≠ p.bs ∧ p.mv.ownBlock ≠ some k := by
    intro k hk
    exact ⟨fun e => n6 k (by simp [hk]) p.bs (by simp) e, fun e => n6 k (by simp [hk]) k (by simp [e]) rfl⟩
  have hq1 : ∀ k, k ∈ qs.flatMap Prt.blocks → k ≠ p.bs ∧ p.mv.ownBlock ≠ some k := by
    intro k hk
    exact ⟨fun e => n5 k hk p.bs (by simp) e, fun e => n5 k hk k (by simp [e]) rfl⟩
  have hqown : ∀ k, k ∈ qs.flatMap Prt.blocks → k ∈ own bl v (qs ++ [p]) := fun k hk => by
    simp only [own, hsplit, List.mem_cons, List.mem_append]; exact .inr (.inr (.inl hk))
  have hmvn : ∀ k, mv'.ownBlock = some k → p.mv.ownBlock = some k ∨ w.heap.size ≤ k := G.newM
  have hnew : ∀ k, k ∈ bl :: (v.ownBlock.toList ++ (qs ++ [p.more x mv']).flatMap Prt.blocks) → k ∈ own bl v (qs ++ [p]) ∨ (mv'.ownBlock = some k ∧ w.heap.size ≤ k) := by
    intro k hk
    rw [hsplit'] at hk
    simp only [List.mem_cons, List.mem_append, Option.mem_toList] at hk
    rcases hk with rfl | hk | hk | rfl | hk
    · exact .inl (by simp [own])
    · exact .inl (by simp [own, hk])
    · exact .inl (hqown k hk)
    · exact .inl (mem_own_bs hpm)
    · rcases hmvn k hk with h1 | h1
      · exact .inl (mem_own_mv hpm h1)
      · exact .inr ⟨hk, h1⟩
  refine ⟨G.disk, (htouch bl (by simp [own]) hbl1 hbl2).trans h.cell, ?_, ?_, ?_, ?_, ?_, ?_, ?_, ?_, h.tab⟩
  · have hc : (qs ++ [p.more x mv']).flatMap Prt.cells = (qs ++ [p]).flatMap Prt.cells := by simp [Prt.cells, Prt.more]
    have hl : (qs ++ [p.more x mv']).length = (qs ++ [p]).length := by simp
    unfold Parts
    rw [hc, hl]
    exact Vd.ownsRow_at h.row fun k hk => htouch k (by simp [own, hk]) (hv1 k hk).1 (hv1 k hk).2
  · intro q hq
    rcases List.mem_append.1 hq with hq | hq
    · have hs := h.part q (List.mem_append.2 (.inl hq))
      have hqb : ∀ k, k ∈ q.blocks → w'.heap[k]? = w.heap[k]? := fun k hk => by
        have hm : k ∈ qs.flatMap Prt.blocks := List.mem_flatMap.2 ⟨q, hq, hk⟩
        exact htouch k (hqown k hm) (hq1 k hm).1 (hq1 k hm).2
      have hne : q.base ≠ p.base := by
        intro e
        have hn := h.nodup
        rw [List.map_append, List.nodup_append] at hn
        exact hn.2.2 q.base (List.mem_map_of_mem hq) p.base (by simp) e
      have hl := G.other (nm q.base) (nm_inj (by have := h.bases q (List.mem_append.2 (.inl hq)); omega) (by have := h.bases p hpm; omega) hne)
      exact ⟨⟨(hqb _ (by simp [Prt.blocks])).trans hs.seg.cell, Vd.ownsRow_at hs.seg.own fun k hk => hqb k (by simp [Prt.blocks, hk])⟩, hs.chain, hs.good, by rw [hl]; exact hs.file⟩
    · simp only [List.mem_singleton] at hq
      subst hq
      exact G.seg
  · intro q hq
    rcases List.mem_append.1 hq with hq | hq
    · exact h.bases q (List.mem_append.2 (.inl hq))
    · simp only [List.mem_singleton] at hq; subst hq; exact h.bases p hpm
  · have := h.nodup
    simpa [Prt.more] using this
  · rw [hsplit', List.nodup_cons, List.nodup_append, List.nodup_append, List.nodup_cons]
    have hfr : ∀ k, mv'.ownBlock = some k → k ∉ own bl v (qs ++ [p]) ∨ p.mv.ownBlock = some k := by
      intro k hk
      rcases hmvn k hk with h1 | h1
      · exact .inr h1
      · exact .inl fun hm => by have := hlt k hm; omega
    have hx1 : ∀ k, mv'.ownBlock = some k → k ≠ bl ∧ k ∉ v.ownBlock.toList ∧ k ∉ qs.flatMap Prt.blocks ∧ k ≠ p.bs := by
      intro k hk
      rcases hfr k hk with h1 | h1
      · refine ⟨fun e => h1 (by simp [own, e]), fun e => h1 (by simp only [own, List.mem_cons, List.mem_append]; exact .inr (.inl e)), fun e => h1 (hqown k e), fun e => h1 (by rw [e]; exact mem_own_bs hpm)⟩
      · refine ⟨fun e => hbl2 (by rw [← e]; exact h1), fun e => (hv1 k (by simpa using e)).2 h1, fun e => (hq1 k e).2 h1, fun e => n4.1 (by rw [← e]; simp [h1])⟩
    refine ⟨?_, n2, ⟨n3, ⟨?_, ?_⟩, ?_⟩, ?_⟩
    · simp only [List.mem_append, List.mem_cons, Option.mem_toList, not_or]
      simp only [List.mem_append, List.mem_cons, Option.mem_toList, not_or] at n1
      exact ⟨n1.1, n1.2.1, n1.2.2.1, fun e => (hx1 bl e).1 rfl⟩
    · intro e; exact (hx1 p.bs (by simpa using e)).2.2.2 rfl
    · cases mv'.ownBlock <;> simp
    · intro a ha c hc e
      subst e
      simp only [List.mem_cons, Option.mem_toList] at hc
      rcases hc with hc | hc
      · exact n5 a ha p.bs (by simp) hc
      · exact (hx1 a hc).2.2.1 ha
    · intro a ha c hc e
      subst e
      simp only [List.mem_append, List.mem_cons, Option.mem_toList] at hc
      rcases hc with hc | hc | hc
      · exact n6 a ha a (by simp only [List.mem_append]; exact .inl hc) rfl
      · exact n6 a ha p.bs (by simp) hc
      · exact (hx1 a hc).2.1 ha
  · intro k hk hD
    rcases hnew k hk with h1 | ⟨h1, _⟩
    · rcases G.newD k hD with h2 | h2
      · exact h.dsk k h1 h2
      · have := hlt k h1; omega
    · exact G.apart k h1 hD
  · intro k hk
    rcases hk with hk | hk
    · rcases hnew k hk with h1 | ⟨_, h1⟩
      · exact h.ge k (.inl h1)
      · exact .inr (Nat.le_trans h.below.size h1)
    · rcases G.newD k hk with h1 | h1
      · exact h.ge k (.inr h1)
      · exact .inr (Nat.le_trans h.below.size h1)
  · refine h.below.trans G.touch ?_
    rintro k (rfl | hk | hk)
    · exact h.ge _ (.inl (mem_own_bs hpm))
    · exact h.ge k (.inl (mem_own_mv hpm hk))
    · exact h.ge k (.inr hk)
end
end Go.Proofs.YtcioejacijkbcaaGreatDoor.Lg
