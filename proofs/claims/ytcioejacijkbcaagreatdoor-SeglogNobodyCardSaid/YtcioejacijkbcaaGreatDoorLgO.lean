/- seglog: the first manifest, read: texts and numbers of the standard library. -/
import Derived.Test.YtcioejacijkbcaaGreatDoorLgJ
import Derived.Deep.QuietTactic
import Derived.BigQuiet
import Derived.Laws.MakeOwn
import Derived.Lib.MinMax
import Derived.Deep.RegionLaw
namespace Go.Proofs.YtcioejacijkbcaaGreatDoor.Lg
open Go.RowKit Go.Maps Go.ChangeMaps Go.WideMaps Go.Proofs.YtcioejacijkbcaaGreatDoor.Vd Go.Proofs.YtcioejacijkbcaaGreatDoor.Rc Go.Proofs.YtcioejacijkbcaaGreatDoor.Rg Go.Proofs.YtcioejacijkbcaaGreatDoor.Sg
set_option linter.unusedVariables false
def line : ByteArray := { data := #[48, 32, 48] }
def zero : ByteArray := { data := #[48] }
theorem trim0 (w : World) : Calls Tryz.prog 33 #[.string { data := #[48, 32, 48, 10] }, .string { data := #[10] }] w fun e w' => e = .returned (.string line) ∧ w = w' := by
  refine (Tryz.strings_TrimSuffix { data := #[48, 32, 48, 10] } { data := #[10] } w (by decide)).mono ?_
  rintro e w' ⟨rfl, rfl⟩
  exact ⟨by rfl, rfl⟩
theorem atoi0 (w : World) : Calls Tryz.prog 35 #[.string zero] w fun e w' => e = .returned (.tuple #[.int .i64 0, .nilIface]) ∧ Below w.heap.size w w' := by
  refine (Tryz.strconv_Atoi zero 0 (by decide) (by rfl) w).mono ?_
  rintro e w' ⟨rfl, t, rfl⟩
  refine ⟨rfl, ?_⟩
  unfold Lib.bytesWorld World.freeze
  rw [if_neg (by decide)]
  have h1 := ((Below.refl w.heap.size w).drew).alloc (o := .cells (Lib.bytesCells w 5 t) 5) (Nat.le_refl _)
  refine ⟨h1.os, h1.tape, h1.output, ?_, ?_⟩
  · have := h1.size
    simpa using this
  · intro k hk
    have := h1.block k hk
    rw [← this]
    show (Array.modify _ _ _)[k]? = _
    rw [Array.getElem?_modify, if_neg (by show ¬ w.heap.size = k; omega)]
theorem cut_in (w : World) : Calls Tryz.prog 68 #[.string line, .string { data := #[32] }] w fun e w' => e = .returned (.tuple #[.string zero, .string zero, .bool true]) ∧ Below w.heap.size w w' := by
  have HI := Lib.hid (fun w => Tryz.stringslite_Index_one line 32 w)
  go_enter Tryz.func68, Tryz.ntmps68
  go_wp2_with fail
  refine (HI.out _).mono ?_
  rintro e w1 ⟨rfl, rfl⟩
  rw [show Lib.indexByte line.data.toList 32 = 1 from by rfl]
  go_upto_region 3 with (fail)
  unfold line
  go_quiet (fail)
  go_wp2_with fail
  go_ret3
  exact ⟨rfl, rfl, rfl, rfl, Nat.le_refl _, fun _ _ => rfl⟩
theorem cut0 (w : World) : Calls Tryz.prog 34 #[.string line, .string { data := #[32] }] w fun e w' => e = .returned (.tuple #[.string zero, .string zero, .bool true]) ∧ Below w.heap.size w w' := by
  have HI := Lib.hid (fun w => cut_in w)
  go_enter Tryz.func34, Tryz.ntmps34
  go_wp2_with fail
  refine (HI.out _).mono ?_
  rintro e w1 ⟨rfl, hb⟩
  go_wp2_with fail
  go_ret3
  exact ⟨rfl, hb⟩
theorem infoT : ((Tryz.prog.info? 9).map fun i => (i.zero, i.size, i.bytes)) = some (some (.string ⟨#[]⟩), 1, 16) := by kernel_rfl
theorem make1 (W : World) : (Instr.makeSlice 46 (.int .i64 1) (.int .i64 1)).run Tryz.prog W = .ok (.slice (some ⟨W.heap.size, 0, none⟩) 1 1) (W.alloc (.cells #[.string ⟨#[]⟩] 9)) := by
  obtain ⟨i0, hi, hz0, hz1, hz2⟩ := Bt.info_parts infoT
  have := run_make (P := Tryz.prog) W 46 9 i0 (.string ⟨#[]⟩) Tryz.underlying46 hi hz0 .i64 .i64 1 1 (by omega) (by omega) (by rw [hz2]; omega) (by omega)
  have e : madeCells #[.string ⟨#[]⟩] 1 = #[.string ⟨#[]⟩] := by first | kernel_rfl | simp [madeCells, Array.range]
  simp only [Value.cells, hz1] at this
  rw [← e]
  simpa [Value.cells, hz1] using this
set_option maxRecDepth 100000 in
theorem gensplit (w : World) : Calls Tryz.prog 66 #[.string line, .string { data := #[10] }, .int .i64 0, .int .i64 (-1)] w fun e w' => e = .returned (.slice (some ⟨w.heap.size, 0, none⟩) 1 1) ∧ w'.heap[w.heap.size]? = some (.cells #[.string line] 9 (0, 0)) ∧ Below w.heap.size w w' := by
  have HI := Lib.hid (fun w => Tryz.strings_Count_one line 10 w)
  have hmk := fun W => make1 W
  have hmin : min (1 : Int) (wrap64 ((line.size : Int) + 1)) = 1 := by rw [show line.size = 3 from rfl]; unfold wrap64; omega
  go_enter Tryz.func66, Tryz.ntmps66
  go_wp2_with fail
  refine (HI.out _).mono ?_
  rintro e w1 ⟨rfl, rfl⟩
  rw [show Lib.countByte line.data.toList 10 = 0 from by rfl]
  have hb := (Below.refl w1.heap.size w1).alloc (Nat.le_refl _) (.cells #[.string ⟨#[]⟩] 9)
  have hn := heap_alloc_new w1 (.cells #[.string ⟨#[]⟩] 9)
  have hc : (w1.alloc (.cells #[.string ⟨#[]⟩] 9)).cell? ⟨w1.heap.size, 0, none⟩ = some (.string ⟨#[]⟩) := by rw [Vd.cell_of hn]; rfl
  have hfz := fun j => Lib.frozen_of_heap hn j
  have HB := Lib.hid hb
  have HN := Lib.hid hn
  clear hb hn
  go_wp2_with fail
  go_loopw [0, 10] (fun x i V => (x = .string line ∧ i = .int .i64 0) ∧ V = w1.alloc (.cells #[.string ⟨#[]⟩] 9)) (fun _ _ _ => 0)
  case atStart => exact ⟨⟨rfl, rfl⟩, rfl⟩
  case round =>
    obtain ⟨⟨rfl, rfl⟩, rfl⟩ := hrel
    go_wp2_with fail
    go_ret
    exact ⟨rfl, heap_alloc_new w1 _, (Below.refl w1.heap.size w1).alloc (Nat.le_refl _) _⟩
theorem split0 (w : World) : Calls Tryz.prog 32 #[.string line, .string { data := #[10] }] w fun e w' => e = .returned (.slice (some ⟨w.heap.size, 0, none⟩) 1 1) ∧ w'.heap[w.heap.size]? = some (.cells #[.string line] 9 (0, 0)) ∧ Below w.heap.size w w' := by
  have HI := Lib.hid (fun w => gensplit w)
  go_enter Tryz.func32, Tryz.ntmps32
  go_wp2_with fail
  refine (HI.out _).mono ?_
  rintro e w1 ⟨rfl, h1, h2⟩
  have H1 := Lib.hid (And.intro h1 h2)
  clear h1 h2
  go_wp2_with fail
  go_ret
  exact ⟨rfl, H1.out⟩
end Go.Proofs.YtcioejacijkbcaaGreatDoor.Lg
/- seglog: Open on an empty disk. -/
namespace Go.Proofs.YtcioejacijkbcaaGreatDoor.Lg
open Go.RowKit Go.Maps Go.ChangeMaps Go.WideMaps Go.Proofs.YtcioejacijkbcaaGreatDoor.Vd Go.Proofs.YtcioejacijkbcaaGreatDoor.Rc Go.Proofs.YtcioejacijkbcaaGreatDoor.Rg Go.Proofs.YtcioejacijkbcaaGreatDoor.Sg
set_option linter.unusedVariables false
def P0 (b : Nat) : Prt := ⟨b, 0, [], .slice none 0 0⟩
section
variable {w0 w w' : World} {bl bd bm room limit : Nat} {fs fs' : List Fil} {v : Value} {ps qs : List Prt}
theorem LogAt.kept (h : LogAt w0 w bl bd bm room limit fs v ps) (hk : ∀ k, k ∈ own bl v ps ∨ DiskB bd bm fs k → w'.heap[k]? = w.heap[k]?) (hb : Below w0.heap.size w0 w') : LogAt w0 w' bl bd bm room limit fs v ps := by
  refine ⟨h.disk.kept fun k hd => hk k (.inr hd), (hk bl (.inl (by simp [own]))).trans h.cell, Vd.ownsRow_at h.row fun k hv => hk k (.inl (by simp [own, hv])), ?_, h.bases, h.nodup, h.apart, h.dsk, h.ge, hb⟩
  intro p hp
  have hs := h.part p hp
  exact ⟨⟨(hk _ (.inl (mem_own_bs hp))).trans hs.seg.cell, Vd.ownsRow_at hs.seg.own fun k hm => hk k (.inl (mem_own_mv hp hm))⟩, hs.chain, hs.good, hs.file⟩
theorem ln0 : ln 0 = { data := #[48, 32, 48, 10] } := rfl
theorem look_nil (n : ByteArray) : look [] n = none := rfl
/-- a disk that has the manifest alone -/
theorem only_man {l : List UInt8} (h : look fs man = some l) (hl : fs.length ≤ 1) : sorted fs = [man.data.toList] ∧ fs.length = 1 := by
  obtain ⟨l1, f, l2, rfl, hn, _, _⟩ := look_some h
  have h1 : l1 = [] := List.length_eq_zero_iff.1 (by simp at hl; omega)
  have h2 : l2 = [] := List.length_eq_zero_iff.1 (by simp at hl; omega)
  subst h1
  subst h2
  refine ⟨?_, rfl⟩
  simp [sorted, Vd.nm, hn]
def OpRel (w0 W : World) (bl bd bm room limit : Nat) (fs : List Fil) (i : Value) (V : World) : Prop :=
  (i = .int .i64 0 ∧ V = W) ∨ (i = .int .i64 1 ∧ ∃ b v, LogAt w0 V bl bd bm room limit fs v [P0 b])
set_option maxRecDepth 100000 in
set_option maxHeartbeats 4000000 in
theorem l_open (D : DiskAt w bd bm room []) (hroom : 4 ≤ room) (hl1 : 1 ≤ limit) (hl2 : limit ≤ 16777216) (hge : ∀ k, DiskB bd bm [] k → w0.heap.size ≤ k) (hb0 : Below w0.heap.size w0 w) :
    Calls Tryz.prog 11 #[.pointer (some ⟨bd, 0, none⟩), .int .i64 limit] w fun e w' => ∃ bl b v fs', e = .returned (.tuple #[.pointer (some ⟨bl, 0, none⟩), .int .i64 0]) ∧ LogAt w0 w' bl bd bm room limit fs' v [P0 b] ∧
      look fs' fresh = none ∧ (∀ n, n ≠ man → look fs' n = none) ∧ total fs' ≤ 4 ∧ fs'.length ≤ 1 := by
  have HD := Lib.hid D
  have HG := Lib.hid (And.intro hge hb0)
  have HRM := Lib.hid hroom
  have hmm := @run_makeMap Tryz.prog
  have hlt1 : ¬ (limit : Int) < 1 := by omega
  have hlt2 : ¬ 16777216 < (limit : Int) := by omega
  clear D hge hb0 hroom hl1 hl2
  go_enter Tryz.func11, Tryz.ntmps11
  go_wp2_with fail
  refine (read_none HD.out man good_man (by simp)).mono ?_
  rintro e w1 ⟨rfl, hb1⟩
  have hbA := (Below.refl w1.heap.size w1).alloc (Nat.le_refl _) (.cells #[.pointer (some ⟨bd, 0, none⟩), .int .i64 limit, .slice none 0 0] 42)
  have HL1 := Lib.hid (show LogAt w0 (w1.alloc (.cells #[.pointer (some ⟨bd, 0, none⟩), .int .i64 limit, .slice none 0 0] 42)) w1.heap.size bd bm room limit [] (.slice none 0 0) [] from by
    have hD1 := HD.out.below hb1
    have hd : ¬ DiskB bd bm [] w1.heap.size := fun hk => by have := hD1.lt _ hk; omega
    have hz := Nat.le_trans HG.out.2.size hb1.size
    refine ⟨hD1.below hbA, heap_alloc_new _ _, World.ownsRow_nil _ _ _ _, by simp, by simp, by simp, by simp [Value.ownBlock], ?_, ?_, ?_⟩
    · intro k hk
      simp [Value.ownBlock] at hk
      rw [hk]; exact hd
    · intro k hk
      rcases hk with hk | hk
      · simp [Value.ownBlock] at hk
        rw [hk]; exact hz
      · exact HG.out.1 k hk
    · exact (HG.out.2.trans (hb1.mono HG.out.2.size)).alloc hz _)
  clear hb1 hbA
  go_wp2_with fail
  generalize w1.alloc (.cells #[.pointer (some ⟨bd, 0, none⟩), .int .i64 limit, .slice none 0 0] 42) = w2 at HL1 ⊢
  generalize w1.heap.size = bl at HL1 ⊢
  refine (size_none HL1.out.disk man good_man (by simp)).mono ?_
  rintro e w3 ⟨rfl, hb3⟩
  have HL3 := Lib.hid (HL1.out.more hb3)
  clear hb3
  go_wp2_with fail
  refine (listed _ 0 (.inl rfl)).mono ?_
  rintro e w4 ⟨rfl, rfl⟩
  go_wp2_with fail
  refine (l_writes HL3.out.disk 0 (cells3 HL3.out.cell).1 (HL3.out.dsk bl (by simp)) (look_nil _) (ln 0) (by simp) (by show 0 + 4 ≤ room; have := HRM.out; omega)).mono ?_
  rintro e w5 ⟨rfl, fs, hW⟩
  have HL5 := Lib.hid (HL3.out.step hW.ev (by simp))
  have HM := Lib.hid (show look fs man = some [48, 32, 48, 10] from hW.m)
  have HF := Lib.hid (show look fs fresh = none from hW.f)
  have HO := Lib.hid (show ∀ n, n ≠ man → look fs n = none from fun n hn => by
    by_cases h : n = fresh
    · rw [h]; exact hW.f
    · exact (hW.other n hn h).trans (look_nil n))
  have HT := Lib.hid (show total fs ≤ 4 ∧ fs.length ≤ 1 from ⟨hW.tot, hW.few⟩)
  clear hW
  go_wp2_with fail
  refine (d_size_some HL5.out.disk man _ HM.out).mono ?_
  rintro e w6 ⟨rfl, hb6⟩
  have HL6 := Lib.hid (HL5.out.more hb6)
  clear hb6
  go_wp2_with fail
  refine (d_read_some HL6.out.disk man _ HM.out 0 4 (by decide)).mono ?_
  rintro e w7 ⟨rfl, hb7⟩
  rw [show str ((([48, 32, 48, 10] : List UInt8).drop 0).take 4) = { data := #[48, 32, 48, 10] } from rfl]
  have HL7 := Lib.hid (HL6.out.more hb7)
  clear hb7
  have hbM := (Below.refl w7.heap.size w7).alloc (Nat.le_refl _) (.map #[] 0)
  have HL8 := Lib.hid (HL7.out.more hbM)
  have HMap := Lib.hid (Mp.mapAt_made (P := Tryz.prog) (k := 9) w7)
  have HKM := Lib.hid (show w7.heap.size ∉ own bl (.slice none 0 0) [] ∧ ¬ DiskB bd bm fs w7.heap.size ∧ w0.heap.size ≤ w7.heap.size from ⟨fun hk => by have := HL7.out.lt _ hk; omega, fun hk => by have := HL7.out.disk.lt _ hk; omega, HL7.out.below.size⟩)
  clear hbM
  go_wp2_with fail
  generalize w7.alloc (.map #[] 0) = w8 at HL8 HMap ⊢
  generalize w7.heap.size = km at HKM HMap ⊢
  refine (trim0 _).mono ?_
  rintro e w9 ⟨rfl, rfl⟩
  go_wp2_with fail
  refine (split0 _).mono ?_
  rintro e w9 ⟨rfl, hc9, hb9⟩
  have HL9 := Lib.hid (HL8.out.more hb9)
  have HMap9 := Lib.hid (HMap.out.kept (hb9.block _ HMap.out.lt))
  have HC9 := Lib.hid hc9
  clear hb9 hc9
  generalize w8.heap.size = sb at HC9 ⊢
  go_wp2_with fail
  go_loopw [71] (fun i V => OpRel w0 w9 bl bd bm room limit fs i V) (fun i _ => 1 - (intOf i).toNat)
  case atStart => exact .inl ⟨rfl, rfl⟩
  case round =>
    rcases hrel with ⟨rfl, rfl⟩ | ⟨rfl, b, v, hL⟩
    · have hc : wr.cell? ⟨sb, 0, none⟩ = some (.string line) := Vd.cell_of HC9.out 0
      go_wp2_with fail
      refine (cut0 _).mono ?_
      rintro e w10 ⟨rfl, hb10⟩
      have HB10 := Lib.hid hb10
      clear hb10
      go_wp2_with fail
      refine (atoi0 _).mono ?_
      rintro e w11 ⟨rfl, hb11⟩
      have HB11 := Lib.hid (HB10.out.trans (hb11.mono HB10.out.size))
      clear hb11
      go_wp2_with fail
      refine (atoi0 _).mono ?_
      rintro e w12 ⟨rfl, hb12⟩
      have hb13 := HB11.out.trans (hb12.mono HB11.out.size)
      have HL12 := Lib.hid (HL9.out.more hb13)
      have HMap12 := Lib.hid (HMap9.out.kept (hb13.block _ HMap9.out.lt))
      clear hb12 hb13 hc
      obtain ⟨y0, y1, y2⟩ := cells3 HL12.out.cell
      go_wp2_with fail
      refine (l_opens HL12.out.disk y0 0 (.inl rfl) (HO.out _ (nm_ne 0 (.inl rfl)).1)).mono ?_
      rintro e w13 ⟨b, rfl, hlb, hsi, hb13⟩
      have HL13 := Lib.hid (HL12.out.more hb13)
      have HMap13 := Lib.hid (HMap12.out.kept (hb13.block _ HMap12.out.lt))
      have HSI := Lib.hid hsi
      have HBO := Lib.hid (show b ∉ own bl (.slice none 0 0) [] ∧ ¬ DiskB bd bm fs b ∧ w0.heap.size ≤ b ∧ km ≠ b from ⟨fun hk => by have := HL12.out.lt b hk; omega, fun hk => by have := HL12.out.disk.lt b hk; omega, Nat.le_trans HL12.out.below.size hlb, by have := HMap12.out.lt; omega⟩)
      have HBS := Lib.hid (Vd.lt_of_heap hsi.seg.cell)
      clear hlb hsi hb13 y0 y1 y2
      have hb14 := (Below.refl w13.heap.size w13).alloc (Nat.le_refl _) (.cells #[.pointer (some ⟨b, 0, none⟩), .int .i64 0] 66)
      have HL14 := Lib.hid (HL13.out.more hb14)
      have HSI14 := Lib.hid (HSI.out.below hb14)
      have HMap14 := Lib.hid (HMap13.out.kept (hb14.block _ HMap13.out.lt))
      have HT14 := Lib.hid (heap_alloc_new w13 (.cells #[.pointer (some ⟨b, 0, none⟩), .int .i64 0] 66))
      clear hb14
      go_upto_region 21 with (fail)
      generalize w13.alloc (.cells #[.pointer (some ⟨b, 0, none⟩), .int .i64 0] 66) = w14 at HL14 HSI14 HMap14 HT14 ⊢
      generalize w13.heap.size = pb at HT14 ⊢
      obtain ⟨y0, y1, y2⟩ := cells3 HL14.out.cell
      obtain ⟨t0, t1⟩ := cells2 HT14.out
      have hbA := (Below.refl w14.heap.size w14).alloc (Nat.le_refl _) (.cells #[.pointer (some ⟨b, 0, none⟩), .int .i64 0] 66)
      have HA := Lib.hid (HL14.out.more hbA)
      have HBA := Lib.hid hbA
      obtain ⟨z0, z1, z2⟩ := cells3 HA.out.cell
      clear hbA
      go_region_law (go_loud (refine step_append_part rfl (.tmp 125) (.tmp 127) rfl 0 (.slice none 0 0) [] (by simp [Act.eval, Act.put]) (World.ownsRow_nil _ _ _ _) w14.heap.size (P0 b) (by simp [Act.eval, Act.put]) (heap_alloc_new w14 _) (by simp) (Nat.zero_le _) ?_; intro g c w15 ho hg hv hl; have HB15 := Lib.hid (HBA.out.drew.grown hg HBA.out.drew.size (fun k hk => by cases hk)); have HO15 := Lib.hid ho; have HG15 := Lib.hid (show g = w14.heap.size + 1 from hv.elim (fun h => by cases h) (fun h => h.trans (show (w14.heap.push _).size = _ by simp))); have HL15 := Lib.hid (HL14.out.more HB15.out); have HGL := Lib.hid hl; obtain ⟨x0, x1, x2⟩ := cells3 HL15.out.cell; have hfz := fun j => Lib.frozen_of_heap HL15.out.cell j; clear ho hg hv hl))
      all_goals
        have HGE := Lib.hid (show g ≠ b ∧ g ∉ own bl (.slice none 0 0) [] ∧ ¬ DiskB bd bm fs g ∧ w0.heap.size ≤ g ∧ km ≠ g ∧ km ≠ bl from by
          have h1 := HG15.out
          have h2 := Vd.lt_of_heap HSI14.out.seg.cell
          have h3 := HMap14.out.lt
          have h4 := HL14.out.below.size
          refine ⟨by omega, fun hk => by have := HL14.out.lt g hk; omega, fun hk => by have := HL14.out.disk.lt g hk; omega, by omega, by omega, fun e => HKM.out.1 (by simp [own, e])⟩)
        have HL16 := Lib.hid (HL15.out.add (P0 b) (.slice (some ⟨g, 0, none⟩) 1 c) g rfl HO15.out (HSI14.out.below HB15.out) (.inl rfl) (by simp) rfl HGE.out.1 HGE.out.2.1 HBO.out.1 HGE.out.2.2.1 HBO.out.2.1 HGE.out.2.2.2.1 HBO.out.2.2.1)
        have HMap16 := Lib.hid ((HMap14.out.kept (HB15.out.block _ HMap14.out.lt)).kept (Rc.set_other w15 ⟨bl, 2, none⟩ (.slice (some ⟨g, 0, none⟩) 1 c) km HGE.out.2.2.2.2.2))
        clear y0 y1 y2 t0 t1 z0 z1 z2 x0 x1 x2 hfz
        go_wp2_with fail
        refine (named _ 0 (.inl rfl)).mono ?_
        rintro e w17 ⟨rfl, hb17⟩
        have HL17 := Lib.hid (HL16.out.more hb17)
        have hmp := HMap16.out.kept (hb17.block _ HMap16.out.lt)
        clear hb17
        obtain ⟨o, m', hmu, _, _⟩ := Mp.store hmp law Tryz.underlying73 (good_nm 0 (.inl rfl)).key (.bool true)
        have HL18 := Lib.hid (HL17.out.kept (w' := setBlock w17 km o) (fun k hk => Mp.setBlock_other (fun e => by
          subst e
          rcases hk with hk | hk
          · simp [own, Prt.blocks, P0, Value.ownBlock] at hk
            rcases hk with hk | hk | hk
            · exact HGE.out.2.2.2.2.2 hk
            · exact HGE.out.2.2.2.2.1 hk
            · exact HBO.out.2.2.2 hk
          · exact HKM.out.2.1 hk) o) (Mp.below_setBlock HL17.out.below HKM.out.2.2 o))
        clear hmp
        go_wp2_with fail
        go_roundw
        case rel => exact .inr ⟨rfl, b, _, HL18.out⟩
        case measure => decide
    · have HL := Lib.hid hL
      clear hL
      go_wp2_with fail
      refine (names_yes HL.out.disk).mono ?_
      rintro e w10 ⟨nv, rfl, hn, hb10⟩
      rw [(only_man HM.out HT.out.2).1, (only_man HM.out HT.out.2).2] at hn
      have HL10 := Lib.hid (HL.out.more hb10)
      clear hb10
      obtain ⟨g, cap, rfl, _, _⟩ := World.ownsRow.form hn (by decide)
      have hc : w10.cell? ⟨g, 0, none⟩ = some (.string { data := #[109, 97, 110, 105, 102, 101, 115, 116] }) := (World.ownsRow.cellAt hn 0 (by decide)).trans rfl
      clear hn
      go_wp2_with fail
      go_loopw [139] (fun i V => (i = .int .i64 0 ∨ i = .int .i64 1) ∧ V = w10) (fun i _ => 1 - (intOf i).toNat)
      case atStart => exact ⟨.inl rfl, rfl⟩
      case round =>
        obtain ⟨hi, rfl⟩ := hrel
        rcases hi with rfl | rfl
        · go_wp2_with fail
          refine (Tryz.strings_HasPrefix _ _ _).mono ?_
          rintro e w11 ⟨rfl, rfl⟩
          rw [show Lib.hasPrefix _ _ = false from rfl]
          go_wp2_with fail
          go_roundw
          case rel => exact ⟨.inr rfl, trivial⟩
          case measure => decide
        · go_wp2
          go_ret2
          exact ⟨bl, b, v, fs, rfl, HL10.out, HF.out, HO.out, HT.out⟩
end
end Go.Proofs.YtcioejacijkbcaaGreatDoor.Lg
/- the seglog law: a log of its own; awake. -/
namespace Go.Proofs.YtcioejacijkbcaaGreatDoor.Lg
open Go.RowKit Go.Maps Go.ChangeMaps Go.WideMaps Go.Proofs.YtcioejacijkbcaaGreatDoor.Vd Go.Proofs.YtcioejacijkbcaaGreatDoor.Rc Go.Proofs.YtcioejacijkbcaaGreatDoor.Rg Go.Proofs.YtcioejacijkbcaaGreatDoor.Sg
set_option linter.unusedVariables false
theorem l_begun (w : World) (limit : Nat) (hl1 : 1 ≤ limit) (hl2 : limit ≤ 16777216) :
    Calls Tryz.prog 5 #[.int .i64 limit] w fun e w' => ∃ bd bm bl b v fs, e = .returned (.tuple #[.pointer (some ⟨bd, 0, none⟩), .pointer (some ⟨bl, 0, none⟩), .bool true]) ∧
      LogAt w w' bl bd bm 4194304 limit fs v [P0 b] ∧ look fs fresh = none ∧ (∀ n, n ≠ man → look fs n = none) ∧ total fs ≤ 4 ∧ fs.length ≤ 1 := by
  have HL := Lib.hid (And.intro hl1 hl2)
  clear hl1 hl2
  go_enter Tryz.func5, Tryz.ntmps5
  go_wp2_with fail
  refine (new_disk w 4194304 (by omega)).mono ?_
  rintro e w1 ⟨rfl, O1⟩
  have H1 := Lib.hid O1
  clear O1
  go_wp2_with fail
  refine (l_open (w0 := w) H1.out.disk (by decide) HL.out.1 HL.out.2 H1.out.ge H1.out.below).mono ?_
  rintro e w2 ⟨bl, b, v, fs, rfl, hL⟩
  have HX := Lib.hid hL
  clear hL
  go_wp2
  go_ret3
  exact ⟨_, _, bl, b, v, fs, rfl, HX.out⟩
set_option maxRecDepth 100000 in
set_option maxHeartbeats 1000000 in
theorem awake (w : World) : Calls Tryz.prog 6 #[] w fun e w' => e = .returned (.bool true) ∧ Below w.heap.size w w' := by
  obtain ⟨x, hx⟩ : ∃ x, x = made 0 2 0 0 0 ⟨#[]⟩ := ⟨_, rfl⟩
  have hok : x.Ok := by rw [hx]; exact made_ok 0 2 0 0 0 ⟨#[]⟩ (by decide) (by decide) (by decide) (by decide) (by decide)
  have hxb : x.b = 0 := by rw [hx]; rfl
  have hxc : x.c = 3 := by rw [hx]; rfl
  have hm := fun w => made_walk w 2 0 0 0 ⟨#[]⟩ 0 2 0 0 0 b27 (by decide) b07 (by decide) b0255 (by decide) b0w (by decide) (by decide) (by decide)
  rw [← hx] at hm
  obtain ⟨y, hy⟩ : ∃ y, y = made 3 0 0 0 0 ⟨#[]⟩ := ⟨_, rfl⟩
  have hok' : y.Ok := by rw [hy]; exact made_ok 3 0 0 0 0 ⟨#[]⟩ (by decide) (by decide) (by decide) (by decide) (by decide)
  have hyb : y.b = 3 := by rw [hy]; rfl
  have hyc : y.c = 1 := by rw [hy]; rfl
  have hm' := fun w => made_walk w 0 0 0 0 ⟨#[]⟩ 3 0 0 0 0 b07 (by decide) b07 (by decide) b0255 (by decide) b0w (by decide) (by decide) (by decide)
  rw [← hy] at hm'
  have HM := Lib.hid hm
  have HM' := Lib.hid hm'
  clear hm hm'
  have HX := Lib.hid hok
  have HXB := Lib.hid hxb
  have HXC := Lib.hid hxc
  have HY := Lib.hid hok'
  have HYB := Lib.hid hyb
  have HYC := Lib.hid hyc
  clear hok hxb hxc hx hok' hyb hyc hy
  go_enter Tryz.func6, Tryz.ntmps6
  go_wp2_with fail
  refine (l_begun w 1 (by decide) (by decide)).mono ?_
  rintro e w1 ⟨bd, bm, bl, b, v, fs, rfl, hL, hF⟩
  have H1 := Lib.hid hL
  have HF := Lib.hid hF
  clear hL hF
  go_wp2_with fail
  refine (HM.out w1).mono ?_
  rintro e w2 ⟨rfl, hb2⟩
  have H2 := Lib.hid (H1.out.more hb2)
  clear hb2
  go_wp2_with fail
  refine (HM'.out w2).mono ?_
  rintro e w3 ⟨rfl, hb3⟩
  have H3 := Lib.hid (H2.out.more hb3)
  clear hb3
  go_wp2_with fail
  refine (l_app_order (qs := []) (p := P0 b) H3.out y HY.out (by rw [HYB.out]; show 3 ≠ endOf 0 []; decide) (by simp)).mono ?_
  rintro e w4 ⟨rfl, hb4⟩
  have H4 := Lib.hid (H3.out.more hb4)
  clear hb4
  go_wp2_with fail
  refine (l_app_in (qs := []) (p := P0 b) H4.out x HX.out (by rw [HXB.out]; rfl) (by simp) (by show 0 < 1; decide) (by decide) (by show 0 ≤ 1000; decide) (by have := HF.out.2.2.2; omega) (by have h1 := HF.out.2.2.1; have h2 := HX.out.len; omega)).mono ?_
  rintro e w5 ⟨rfl, fs5, mv, hL, k1, k2, k3, k4⟩
  have H5 := Lib.hid hL
  have HK := Lib.hid (And.intro k1 (And.intro k2 (And.intro k3 k4)))
  have HE5 := Lib.hid (show endOf (((P0 b).more x mv).base) (((P0 b).more x mv).xs) = 3 from by show endOf 0 [x] = 3; simp [endOf, HXC.out])
  clear hL k1 k2 k3 k4
  go_wp2_with fail
  refine (l_app_roll (qs := []) (p := (P0 b).more x mv) H5.out y HY.out (by rw [HE5.out]; exact HYB.out) (by simp) (by show 1 ≤ (text [x]).length; have := HX.out.len; simp [text]; omega) (by decide) 3 HE5.out (.inr rfl) (by show 3 ∉ [0]; decide)
    (by rw [HK.out.1 _ (fun e => nm03 e.symm)]; exact HF.out.2.1 _ (nm_ne 3 (.inr rfl)).1) (by rw [HK.out.1 _ (fun e => (nm_ne 0 (.inl rfl)).2 e.symm)]; exact HF.out.1) _ HK.out.2.1
    (by have h1 := HF.out.2.2.2; have h2 := HK.out.2.2.2; omega) (by show total fs5 + 4 * 2 + y.l.length ≤ 4194304; have h1 := HF.out.2.2.1; have h2 := HX.out.len; have h3 := HY.out.len; have h4 := HK.out.2.2.1; omega)).mono ?_
  rintro e w6 ⟨rfl, fs6, v6, b6, mv6, hL⟩
  have H6 := Lib.hid hL
  clear hL
  go_wp2_with fail
  refine (l_segments H6.out (by simp) (by simp)).mono ?_
  rintro e w7 ⟨sv, rfl, hI, hb7⟩
  have H7 := Lib.hid (H6.out.more hb7)
  have HI7 := Lib.hid hI
  clear hI hb7
  go_wp2_with fail
  refine (l_batch ((P0 b).more x mv) ((Prt.mk b6 3 [] (.slice none 0 0)).more y mv6) x y H7.out rfl rfl rfl HXC.out rfl HYC.out).mono ?_
  rintro e w8 ⟨rfl, hb8⟩
  have H8 := Lib.hid (H7.out.more hb8)
  obtain ⟨g, cap, hsv, _, _⟩ := World.ownsRow.form HI7.out (by simp)
  replace hsv : sv = .slice (some ⟨g, 0, none⟩) 2 cap := hsv
  subst hsv
  have hs1 : w7.cell? ⟨g, 1, none⟩ = some (.int .i64 3) := (World.ownsRow.cellAt HI7.out 1 (by simp)).trans rfl
  have hs2 := (hb8.cell (p := ⟨g, 1, none⟩) (World.ownsRow.lt HI7.out g rfl).2).trans hs1
  have hb8s := hb8.size
  clear hb8
  have HS2 := Lib.hid hs2
  have HGL := Lib.hid (Nat.lt_of_lt_of_le (World.ownsRow.lt HI7.out g rfl).2 (show w7.heap.size ≤ w8.heap.size from hb8s))
  clear hs1 hs2 hb8s
  go_wp2_with fail
  refine (l_end H8.out ((Prt.mk b6 3 [] (.slice none 0 0)).more y mv6) [(P0 b).more x mv] rfl (by simp)).mono ?_
  rintro e w9 ⟨rfl, hb9⟩
  rw [show endOf (((Prt.mk b6 3 [] (.slice none 0 0)).more y mv6).base) (((Prt.mk b6 3 [] (.slice none 0 0)).more y mv6).xs) = 4 from by show endOf 3 [y] = 4; simp [endOf, HYC.out]]
  have H9 := Lib.hid (H8.out.more hb9)
  have hs3 := (hb9.cell (p := ⟨g, 1, none⟩) HGL.out).trans HS2.out
  clear hb9
  go_wp2
  go_ret
  exact ⟨rfl, H9.out.below⟩
end Go.Proofs.YtcioejacijkbcaaGreatDoor.Lg
/- SeglogNobody returns true, whatever its arguments are. No condition. -/
namespace Go.Proofs.YtcioejacijkbcaaGreatDoor.Lg
open Go.RowKit Go.Maps Go.ChangeMaps Go.WideMaps Go.Proofs.YtcioejacijkbcaaGreatDoor.Vd Go.Proofs.YtcioejacijkbcaaGreatDoor.Rc Go.Proofs.YtcioejacijkbcaaGreatDoor.Rg Go.Proofs.YtcioejacijkbcaaGreatDoor.Sg
set_option linter.unusedVariables false
set_option maxRecDepth 100000 in
theorem open_nil (w : World) : Calls Tryz.prog 11 #[.pointer none, .int .i64 9] w fun e w' => e = .returned (.tuple #[.pointer none, .int .i64 1]) ∧ w = w' := by
  go_enter Tryz.func11, Tryz.ntmps11
  go_wp2_with fail
  refine (Vd.read_nobody w none _ _ _ (fun a ha => by cases ha)).mono ?_
  rintro e w1 ⟨rfl, rfl⟩
  go_wp2
  go_ret2
  exact ⟨rfl, rfl⟩
theorem Nobody.below {w w' : World} {p : Option Addr} (h : Nobody w p) (hb : Below w.heap.size w w') : Nobody w' p := by
  intro a ha
  obtain ⟨b, rfl, hc⟩ := h a ha
  exact ⟨b, rfl, (hb.cell (p := ⟨b, 2, none⟩) (by
    unfold World.cell? at hc
    rcases Nat.lt_or_ge b w.heap.size with h | h
    · exact h
    · rw [Array.getElem?_eq_none h] at hc; cases hc)).trans hc⟩
set_option maxRecDepth 100000 in
set_option maxHeartbeats 2000000 in
theorem walk_nobody (n : Int) (_ : (Lit.int .i64 n).wf = true) (s : ByteArray) (_ : s.size ≤ 140737488351232) (w : World) :
    Calls Tryz.prog 4 #[.int .i64 n, .string s] w fun e w' => e = .returned (.bool true) ∧ Below w.heap.size w w' := by
  go_enter Tryz.func4, Tryz.ntmps4
  go_wp2_with fail
  refine (open_nil w).mono ?_
  rintro e w0 ⟨rfl, rfl⟩
  have HB := Lib.hid (((Below.refl w.heap.size w).alloc (Nat.le_refl _) (.cells #[.pointer none, .int .i64 0, .slice none 0 0] 42)).alloc (Nat.le_of_lt (by simp)) (.cells #[.pointer none, .pointer (some ⟨w.heap.size, 0, none⟩)] 24))
  have e0 : (w.alloc (.cells #[.pointer none, .int .i64 0, .slice none 0 0] 42)).heap.size = w.heap.size + 1 := by show (w.heap.push _).size = _; simp
  have HA := Lib.hid (heap_alloc_new (w.alloc (.cells #[.pointer none, .int .i64 0, .slice none 0 0] 42)) (.cells #[.pointer none, .pointer (some ⟨w.heap.size, 0, none⟩)] 24))
  rw [e0] at HA
  have HC := Lib.hid (Rc.alloc_old (.cells #[.pointer none, .pointer (some ⟨w.heap.size, 0, none⟩)] 24) (heap_alloc_new w (.cells #[.pointer none, .int .i64 0, .slice none 0 0] 42)))
  clear e0
  go_wp2_with fail
  generalize (w.alloc (.cells #[.pointer none, .int .i64 0, .slice none 0 0] 42)).alloc (.cells #[.pointer none, .pointer (some ⟨w.heap.size, 0, none⟩)] 24) = W at HB HA HC ⊢
  go_loopw [8] (fun i wr => ∃ k : Nat, k ≤ 2 ∧ i = .int .i64 k ∧ Below W.heap.size W wr) (fun i _ => 2 - (intOf i).toNat)
  case atStart => exact ⟨0, by omega, rfl, Below.refl _ _⟩
  case round =>
    obtain ⟨k, hk, rfl, hW⟩ := hrel
    have HW := Lib.hid hW
    obtain ⟨h2, h3⟩ := cells2 ((hW.block _ (Vd.lt_of_heap HA.out)).trans HA.out)
    have hN0 : Nobody wr none := by intro a ha; cases ha
    have hN1 : Nobody wr (some ⟨w.heap.size, 0, none⟩) := by intro a ha; cases ha; exact ⟨_, rfl, (cells3 ((hW.block _ (Vd.lt_of_heap HC.out)).trans HC.out)).2.2⟩
    have H0 := Lib.hid hN0
    have H1 := Lib.hid hN1
    clear hW hN0 hN1
    rcases (show k = 0 ∨ k = 1 ∨ k = 2 from by omega) with rfl | rfl | rfl
    · have HN := H0
      go_wp2_with (first | (go_at_call 12; refine (Lg.batch_nobody _ _ _ HN.out).mono ?_; rintro e w' ⟨rfl, rfl⟩) | (go_at_call 13; refine (Lg.batches_nobody _ _ _ HN.out).mono ?_; rintro e w' ⟨rfl, rfl⟩) | (go_at_call 14; refine (Lg.read_nobody _ _ _ _ _ HN.out).mono ?_; rintro e w' ⟨rfl, rfl⟩) | (go_at_call 9; refine (Lg.append_nobody _ _ _ HN.out).mono ?_; rintro e w' ⟨rfl, rfl⟩) | (go_at_call 15; refine (Lg.sync_nobody _ _ HN.out).mono ?_; rintro e w' ⟨rfl, rfl⟩) | (go_at_call 16; refine (Lg.cut_nobody _ _ _ HN.out).mono ?_; rintro e w' ⟨rfl, rfl⟩) | (go_at_call 8; refine (Lg.end_nobody _ _ HN.out).mono ?_; rintro e w' ⟨rfl, rfl⟩) | (go_at_call 10; refine (Lg.segments_nobody _ _ HN.out).mono ?_; rintro e w' ⟨rfl, rfl⟩) | (go_at_call 17; refine (Lg.swap_nobody _ _ _ _ HN.out).mono ?_; rintro e w9 ⟨rfl, hb9⟩))
      go_roundw
      case rel => exact ⟨1, by omega, rfl, HW.out.trans (hb9.mono HW.out.size)⟩
      case measure => simp [intOf]
    · have HN := H1
      go_wp2_with (first | (go_at_call 12; refine (Lg.batch_nobody _ _ _ HN.out).mono ?_; rintro e w' ⟨rfl, rfl⟩) | (go_at_call 13; refine (Lg.batches_nobody _ _ _ HN.out).mono ?_; rintro e w' ⟨rfl, rfl⟩) | (go_at_call 14; refine (Lg.read_nobody _ _ _ _ _ HN.out).mono ?_; rintro e w' ⟨rfl, rfl⟩) | (go_at_call 9; refine (Lg.append_nobody _ _ _ HN.out).mono ?_; rintro e w' ⟨rfl, rfl⟩) | (go_at_call 15; refine (Lg.sync_nobody _ _ HN.out).mono ?_; rintro e w' ⟨rfl, rfl⟩) | (go_at_call 16; refine (Lg.cut_nobody _ _ _ HN.out).mono ?_; rintro e w' ⟨rfl, rfl⟩) | (go_at_call 8; refine (Lg.end_nobody _ _ HN.out).mono ?_; rintro e w' ⟨rfl, rfl⟩) | (go_at_call 10; refine (Lg.segments_nobody _ _ HN.out).mono ?_; rintro e w' ⟨rfl, rfl⟩) | (go_at_call 17; refine (Lg.swap_nobody _ _ _ _ HN.out).mono ?_; rintro e w9 ⟨rfl, hb9⟩))
      go_roundw
      case rel => exact ⟨2, by omega, rfl, HW.out.trans (hb9.mono HW.out.size)⟩
      case measure => simp [intOf]
    · go_wp2_with (go_at_call 6; refine (Lg.awake _).mono ?_; rintro e w' ⟨rfl, hbw⟩)
      go_ret
      exact ⟨rfl, HB.out.trans ((HW.out.trans (hbw.mono HW.out.size)).mono HB.out.size)⟩
end Go.Proofs.YtcioejacijkbcaaGreatDoor.Lg
