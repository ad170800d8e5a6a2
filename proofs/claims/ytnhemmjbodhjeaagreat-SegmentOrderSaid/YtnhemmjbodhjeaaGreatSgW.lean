/- SegmentOrder returns true, whatever its arguments are. No condition. -/
import Derived.Test.YtnhemmjbodhjeaaGreatSgV
import Derived.Test.YtnhemmjbodhjeaaGreatOpens3
import Derived.Test.YtnhemmjbodhjeaaGreatRh
import Derived.Deep.Cut
namespace Go.Proofs.YtnhemmjbodhjeaaGreat.Sg
open Go.RowKit Go.Maps Go.ChangeMaps Go.WideMaps Go.Proofs.YtnhemmjbodhjeaaGreat.Vd Go.Proofs.YtnhemmjbodhjeaaGreat.Rc Go.Proofs.YtnhemmjbodhjeaaGreat.Ba Go.Proofs.YtnhemmjbodhjeaaGreat.Rf Go.Proofs.YtnhemmjbodhjeaaGreat.Rg Go.Proofs.YtnhemmjbodhjeaaGreat.Opens
set_option linter.unusedVariables false
def OrdRel (w W1 : World) (n : Nat) (bs bd bm : Nat) (v i : Value) (wr : World) : Prop := ∃ (k : Nat) (xs : List Bat) (fs : List Fil) (mv : Value), i = .int .i64 k ∧ k ≤ n ∧ xs.length = k ∧ (text xs).length ≤ 33639 * k ∧ endOf 0 xs ≤ 8 * k ∧
  Both W1 wr bs bd bm 4194304 { data := #[115, 101, 103] } 0 fs xs mv xs v
set_option maxRecDepth 100000 in
set_option maxHeartbeats 4000000 in
theorem walk_order (ap : Option Addr) (cap : Nat) (ss : List Rcp) (x : Rcp) (by' : Int) (_ : (Lit.int .i64 by').wf = true) (w : World) (hR : RcpsAt w ap ss) :
    Calls Tryz.prog 5 #[.slice ap ss.length cap, .agg #[.int .i64 x.c, .int .i64 x.k, .int .i64 x.p, .int .i64 x.q, .string x.v], .int .i64 by'] w fun e w' => e = .returned (.bool true) ∧ Below w.heap.size w w' := by
  have hb1 := (Below.refl w.heap.size w).alloc (Nat.le_refl _) (.cells #[.int .i64 x.c, .int .i64 x.k, .int .i64 x.p, .int .i64 x.q, .string x.v] 28)
  have hc1 := heap_alloc_last w (.cells #[.int .i64 x.c, .int .i64 x.k, .int .i64 x.p, .int .i64 x.q, .string x.v] 28)
  have hr1 := hR.below hb1
  have HB1 := Lib.hid hb1
  have HC1 := Lib.hid hc1
  have HR1 := Lib.hid hr1
  clear hb1 hc1 hr1 hR
  go_enter Tryz.func5, Tryz.ntmps5
  go_wp2_with fail
  generalize w.alloc (.cells #[.int .i64 x.c, .int .i64 x.k, .int .i64 x.p, .int .i64 x.q, .string x.v] 28) = W1 at HB1 HC1 HR1 ⊢
  refine (own_begun W1 0 (by decide)).mono ?_
  rintro e w1 ⟨bd, bm, b, rfl, hS⟩
  have HS := Lib.hid hS
  have hcx := (hS.below.block _ (Rc.lt_of_heap HC1.out)).trans HC1.out
  have HCX := Lib.hid hcx
  obtain ⟨x0, x1, x2, x3, x4⟩ := cells5 hcx
  clear hS hcx
  by_cases h40 : (40 : Int) < (ss.length : Int)
  · go_wp2_with fail
    refine (awake _).mono ?_
    rintro e w2 ⟨rfl, hb2⟩
    go_wp2
    go_ret
    exact ⟨rfl, HB1.out.trans ((HS.out.below.trans (hb2.mono HS.out.below.size)).mono HB1.out.size)⟩
  by_cases h200 : (200 : Int) < (x.v.size : Int)
  · go_wp2_with fail
    refine (awake _).mono ?_
    rintro e w2 ⟨rfl, hb2⟩
    go_wp2
    go_ret
    exact ⟨rfl, HB1.out.trans ((HS.out.below.trans (hb2.mono HS.out.below.size)).mono HB1.out.size)⟩
  have HX2 := Lib.hid h200
  go_wp2_with fail
  clear x0 x1 x2 x3 x4 h200
  go_loopw [10, 11] (fun v i wr => OrdRel w W1 ss.length b bd bm v i wr) (fun _ i _ => ss.length - (intOf i).toNat)
  case atStart => exact ⟨0, [], [], .slice none 0 0, rfl, by omega, rfl, by simp [text], by simp [endOf], Both.start HS.out⟩
  case round =>
    obtain ⟨k, xs, fs, mv, rfl, hk, hxl, htl, hel, hBo⟩ := hrel
    have HBO := Lib.hid hBo
    have HTL := Lib.hid htl
    have HEL := Lib.hid hel
    have HXL := Lib.hid hxl
    obtain ⟨ap', cap', rfl⟩ := hBo.txt.form
    clear hBo htl hel hxl
    have h40' : (ss.length : Int) ≤ 40 := by omega
    by_cases hlt : k < ss.length
    · have hlt' : (k : Int) < (ss.length : Int) := by omega
      have hk0 : (0 : Int) ≤ (k : Int) := by omega
      obtain ⟨a, hap, hab, r0, r1, r2, r3, r4⟩ := (HR1.out.below HBO.out.seg.below) k hlt
      subst hap
      obtain ⟨y, hy⟩ : ∃ y, y = ss[k] := ⟨_, rfl⟩
      rw [← hy] at r0 r1 r2 r3 r4
      clear hy
      by_cases hv : (200 : Int) < (y.v.size : Int)
      · go_wp2_with fail
        refine (awake _).mono ?_
        rintro e w2 ⟨rfl, hb2⟩
        go_wp2
        go_ret
        exact ⟨rfl, HB1.out.trans ((HBO.out.seg.below.trans (hb2.mono HBO.out.seg.below.size)).mono HB1.out.size)⟩
      · have HV := Lib.hid hv
        have hyv : y.v.size ≤ 4096 := by have := HV.out; omega
        have hee := endOf_le HBO.out.seg.at'.chain (by decide)
        obtain ⟨z, hz, hzb, hz1, hz2, hz3, hzm⟩ := made_any wr y.c y.k y.p y.q y.v (endOf 0 xs) (by have := HEL.out; omega) hyv
        have HMZ := Lib.hid hzm
        have HZ := Lib.hid hz
        have HZB := Lib.hid hzb
        have HZ3 := Lib.hid hz3
        have HZ2 := Lib.hid hz2
        have HAB := Lib.hid hab
        clear hzm hz hzb hz1 hz2 hz3 hee hyv hab
        go_upto_region 10 with (fail)
        have hrl := Nat.le_refl wr.heap.size
        have HR0 := Lib.hid ((Below.refl wr.heap.size wr).drew)
        refine wp_region_seqo [0, 1, 2, 3, 4, 5, 6, 7, 8, 9, 10, 11] (S := (fun w' => Below wr.heap.size wr w' ∧ w'.cell? (a.add (k * 5)) = some (.int .i64 y.c) ∧ w'.cell? ⟨(a.add (k * 5)).block, (a.add (k * 5)).off + 1, none⟩ = some (.int .i64 y.k) ∧ w'.cell? ⟨(a.add (k * 5)).block, (a.add (k * 5)).off + 2, none⟩ = some (.int .i64 y.p) ∧ w'.cell? ⟨(a.add (k * 5)).block, (a.add (k * 5)).off + 3, none⟩ = some (.int .i64 y.q) ∧ w'.cell? ⟨(a.add (k * 5)).block, (a.add (k * 5)).off + 4, none⟩ = some (.string y.v))) (by kernel_rfl) (by kernel_rfl) ⟨HR0.out, r0, r1, r2, r3, r4⟩ ?_
        refine Seqo.light (v := ?_) rfl (by kernel_rfl) ?_ ?_
        rotate_left 1
        focus (intro w hSw; (try dsimp only at hSw); go_simp; try with_reducible rfl)
        try simp only [Act.put, List.setIfInBounds_toArray, List.set_cons_zero, List.set_cons_succ]
        refine Seqo.light (v := ?_) rfl (by kernel_rfl) ?_ ?_
        rotate_left 1
        focus (intro w hSw; (try dsimp only at hSw); go_simp; try with_reducible rfl)
        try simp only [Act.put, List.setIfInBounds_toArray, List.set_cons_zero, List.set_cons_succ]
        refine Seqo.light (v := ?_) rfl (by kernel_rfl) ?_ ?_
        rotate_left 1
        focus (intro w hSw; (try dsimp only at hSw); go_simp; try with_reducible rfl)
        try simp only [Act.put, List.setIfInBounds_toArray, List.set_cons_zero, List.set_cons_succ]
        refine Seqo.light (v := ?_) rfl (by kernel_rfl) ?_ ?_
        rotate_left 1
        focus (intro w hSw; (try dsimp only at hSw); go_simp; try with_reducible rfl)
        try simp only [Act.put, List.setIfInBounds_toArray, List.set_cons_zero, List.set_cons_succ]
        refine Seqo.light (v := ?_) rfl (by kernel_rfl) ?_ ?_
        rotate_left 1
        focus (intro w hSw; (try dsimp only at hSw); go_simp; try with_reducible rfl)
        try simp only [Act.put, List.setIfInBounds_toArray, List.set_cons_zero, List.set_cons_succ]
        refine Seqo.call (.int .i64 (endOf 0 xs)) rfl (by kernel_rfl) (by kernel_rfl) (fun w hSw => by (try dsimp only at hSw); go_simp; exact ⟨rfl, rfl⟩) ?_ ?_
        · intro w3 hSw
          refine (end_yes (HBO.out.more hSw.1).seg.at'.seg).mono ?_
          rintro e w4 ⟨rfl, rfl⟩
          exact ⟨rfl, hSw⟩
        try simp only [Act.put, List.setIfInBounds_toArray, List.set_cons_zero, List.set_cons_succ]
        refine Seqo.call (.tuple #[.string (Bt.str z.l), .bool true]) rfl (by kernel_rfl) (by kernel_rfl) (fun w hSw => by (try dsimp only at hSw); go_simp; exact ⟨rfl, rfl⟩) ?_ ?_
        · intro w3 hSw
          refine (HMZ.out w3).mono ?_
          rintro e w4 ⟨rfl, hb4⟩
          obtain ⟨d, d0, d1, d2, d3, d4⟩ := hSw
          have hlt5 : a.block < w3.heap.size := Nat.lt_of_lt_of_le HAB.out d.size
          have hq : ∀ z : Addr, z.block = a.block → w4.cell? z = w3.cell? z := fun z hz => by unfold World.cell?; rw [hb4.block _ (by rw [hz]; exact hlt5)]
          exact ⟨rfl, d.trans (hb4.mono d.size), (hq _ (Opens.add_block a _)).trans d0, (hq ⟨(a.add (k * 5)).block, _, none⟩ (Opens.add_block a _)).trans d1, (hq ⟨(a.add (k * 5)).block, _, none⟩ (Opens.add_block a _)).trans d2, (hq ⟨(a.add (k * 5)).block, _, none⟩ (Opens.add_block a _)).trans d3, (hq ⟨(a.add (k * 5)).block, _, none⟩ (Opens.add_block a _)).trans d4⟩
        try simp only [Act.put, List.setIfInBounds_toArray, List.set_cons_zero, List.set_cons_succ]
        refine Seqo.light (v := ?_) rfl (by kernel_rfl) ?_ ?_
        rotate_left 1
        focus (intro w hSw; (try dsimp only at hSw); go_simp; try with_reducible rfl)
        try simp only [Act.put, List.setIfInBounds_toArray, List.set_cons_zero, List.set_cons_succ]
        refine Seqo.light (v := ?_) rfl (by kernel_rfl) ?_ ?_
        rotate_left 1
        focus (intro w hSw; (try dsimp only at hSw); go_simp; try with_reducible rfl)
        try simp only [Act.put, List.setIfInBounds_toArray, List.set_cons_zero, List.set_cons_succ]
        refine Seqo.light (v := ?_) rfl (by kernel_rfl) ?_ ?_
        rotate_left 1
        focus (intro w hSw; (try dsimp only at hSw); go_simp; try with_reducible rfl)
        try simp only [Act.put, List.setIfInBounds_toArray, List.set_cons_zero, List.set_cons_succ]
        refine Seqo.light (v := ?_) rfl (by kernel_rfl) ?_ ?_
        rotate_left 1
        focus (intro w hSw; (try dsimp only at hSw); go_simp; try with_reducible rfl)
        try simp only [Act.put, List.setIfInBounds_toArray, List.set_cons_zero, List.set_cons_succ]
        refine Seqo.light (v := ?_) rfl (by kernel_rfl) ?_ ?_
        rotate_left 1
        focus (intro w hSw; (try dsimp only at hSw); go_simp; try with_reducible rfl)
        try simp only [Act.put, List.setIfInBounds_toArray, List.set_cons_zero, List.set_cons_succ]
        refine Seqo.nil fun w5 hS5 => ?_
        have HB5 := Lib.hid (HBO.out.more hS5.1)
        clear hS5 r0 r1 r2 r3 r4 HR0
        go_wp2_with fail
        refine (both_append HB5.out z HZ.out HZB.out (by have := HTL.out; have := HZ3.out; omega)).mono ?_
        rintro e w6 ⟨rfl, fs', mv', hB6⟩
        have HB6 := Lib.hid hB6
        have HT6 := Lib.hid (show Texts (w6.alloc (.cells #[.string (Bt.str z.l)] 9)) W1.heap.size (.slice ap' xs.length cap') xs from World.ownsRow.alloc hB6.txt (.cells #[.string (Bt.str z.l)] 9))
        clear hB6
        go_wp2_with (at_builtin; go_loud (refine wpList_append_text rfl _ _ rfl W1.heap.size _ xs rfl HT6.out w6.heap.size z rfl (heap_alloc_last _ _) (by have := HXL.out; omega) (Bt.le_alloc HB6.out.seg.below.size _) ?_; intro v' w7 hT7 hG7 hV7; have HT7 := Lib.hid hT7; have HG7 := Lib.hid hG7; have HV7 := Lib.hid hV7; clear hT7 hG7 hV7))
        go_roundw
        case rel =>
          refine ⟨k + 1, xs ++ [z], fs', mv', by go_num, by omega, by rw [List.length_append, HXL.out]; rfl, ?_, ?_, ?_⟩
          · rw [text_snoc, List.length_append]; have := HTL.out; have := HZ3.out; omega
          · rw [endOf_snoc]; have := HEL.out; have := HZ2.out; omega
          · exact (HB6.out.more ((Below.refl _ _).alloc (Nat.le_refl _) _)).grow HT7.out HG7.out HV7.out
        case measure => simp [intOf]; omega
    · obtain rfl : k = ss.length := by omega
      have hlt' : ¬ (ss.length : Int) < (ss.length : Int) := by omega
      clear hlt
      have hcx := (HBO.out.seg.below.block _ (Rc.lt_of_heap HC1.out)).trans HC1.out
      have HCX2 := Lib.hid hcx
      clear hcx
      go_wp2_with fail
      refine (end_yes HBO.out.seg.at'.seg).mono ?_
      rintro e w2 ⟨rfl, rfl⟩
      obtain ⟨o, ho, hoe⟩ := mask_nat by' 65535 16 (by decide) (by decide)
      have hoe' : bits .and .i64 by' 65535 = (o : Int) := hoe
      have HO := Lib.hid (show o < 65536 by simpa using ho)
      clear ho hoe
      have hxv : x.v.size ≤ 4096 := by have := HX2.out; omega
      obtain ⟨y, hy, hyb, hy1, hy2, hy3, hym⟩ := made_any w1 x.c x.k x.p x.q x.v o (by have := HO.out; omega) hxv
      obtain ⟨z, hz, hzb, hz1, hz2, hz3, hzm⟩ := made_any w1 x.c x.k x.p x.q x.v (endOf 0 xs) (by have := HEL.out; omega) hxv
      have HY := Lib.hid (And.intro hy (And.intro hyb hym))
      have HZ := Lib.hid (And.intro hz (And.intro hzb (And.intro hz3 hzm)))
      clear hy hyb hy1 hy2 hy3 hym hz hzb hz1 hz2 hz3 hzm hxv
      obtain ⟨x0, x1, x2, x3, x4⟩ := cells5 HCX2.out
      go_wp2_with fail
      refine (HY.out.2.2 _).mono ?_
      rintro e w3 ⟨rfl, hb3⟩
      have HB3 := Lib.hid (HBO.out.more hb3)
      have HCX3 := Lib.hid ((hb3.block _ (Rc.lt_of_heap HCX2.out)).trans HCX2.out)
      clear hb3 x0 x1 x2 x3 x4
      obtain ⟨x0, x1, x2, x3, x4⟩ := cells5 HCX3.out
      go_wp2_with fail
      refine (HZ.out.2.2.2 _).mono ?_
      rintro e w4 ⟨rfl, hb4⟩
      have HB4 := Lib.hid (HB3.out.more hb4)
      clear hb4 x0 x1 x2 x3 x4
      have hzs := Bt.str_size z.l
      have hzl := HZ.out.1.len
      have hcc : (Bt.str z.l ++ Bt.str z.l).data.toList = z.l ++ z.l := by rw [ByteArray.data_append, Array.toList_append, Bt.str_data]
      have hcx : (Bt.str z.l ++ { data := #[120] }).data.toList = z.l ++ [120] := by rw [ByteArray.data_append, Array.toList_append, Bt.str_data]
      have hcs : ((Bt.str z.l).extract 0 (z.l.length - 1)).data.toList = z.l.take (z.l.length - 1) := by rw [Bt.extract_data, Bt.str_data]; simp
      have hsc : (Bt.str z.l ++ Bt.str z.l).size ≤ 1099511627776 := by rw [Bt.size_data, hcc, List.length_append]; omega
      have hsx : (Bt.str z.l ++ { data := #[120] }).size ≤ 1099511627776 := by rw [Bt.size_data, hcx, List.length_append]; simp; omega
      have hss : ((Bt.str z.l).extract 0 (z.l.length - 1)).size ≤ 1099511627776 := by rw [Bt.size_data, hcs, List.length_take]; omega
      have HCC := Lib.hid (And.intro hcc hsc)
      have HCXX := Lib.hid (And.intro hcx hsx)
      have HCS := Lib.hid (And.intro hcs hss)
      have hzne : z.l ≠ [] := by intro h; rw [h] at hzl; simp at hzl
      have HNE := Lib.hid hzne
      obtain ⟨m, hm⟩ : ∃ m, m = z.l.length - 1 := ⟨_, rfl⟩
      have hm1 : (m : Int) + 1 = ((Bt.str z.l).size : Int) := by rw [hzs]; omega
      have hm2 : ((Bt.str z.l).size : Int) - 1 = (m : Int) := by omega
      have hm3 : (m : Int) ≤ ((Bt.str z.l).size : Int) := by omega
      have hm0 : (0 : Int) ≤ (m : Int) := by omega
      have hmw : IntKind.i64.wrap (m : Int) = (m : Int) := IntWalk.i64_in _ (by omega)
      have HMM := Lib.hid hm
      have HMS := Lib.hid (cut_short z HZ.out.1)
      clear hcc hcx hcs hsc hsx hss hzs hzl hzne hm hm1
      have hz2 : ((Bt.str z.l).size) ≤ 262154 := by rw [Bt.str_size]; exact HZ.out.1.len.2
      go_upto_region 18 with (fail)
      generalize hzz : Bt.str z.l = C at *
      have HZZ := Lib.hid hzz
      have hcb : ¬ 9223372036854775807 < C.size + C.size := by omega
      have hcb1 : ¬ 9223372036854775807 < C.size + 1 := by omega
      have HL40 := Lib.hid h40'
      clear hzz hoe' h40' h40 hk hz2
      by_cases hoe : o = endOf 0 xs
      case' pos =>
        subst hoe
        have HB5 := HB4
        go_wp2_with fail
      case' neg =>
        have hne : ((o : Int) != (endOf 0 xs : Int)) = true := bne_iff_ne.2 (by omega)
        have HOE := Lib.hid hoe
        clear hoe
        go_wp2_with fail
        refine (append_order y HB4.out.seg.at'.seg HY.out.1 (Bt.str y.l) (Bt.str_data _) (by rw [HY.out.2.1]; exact HOE.out)).mono ?_
        rintro e w5 ⟨rfl, hb5⟩
        have HB5 := Lib.hid (HB4.out.more hb5)
        clear hb5
        go_wp2_with fail
      all_goals
        refine (append_more z HB5.out.seg.at'.seg HZ.out.1 z.l _ HCC.out.1 HNE.out HCC.out.2).mono ?_
        rintro e w6 ⟨rfl, hb6⟩
        have HB6 := Lib.hid (HB5.out.more hb6)
        clear hb6
        go_wp2_with fail
        refine (append_more z HB6.out.seg.at'.seg HZ.out.1 [120] _ HCXX.out.1 (by simp) HCXX.out.2).mono ?_
        rintro e w7 ⟨rfl, hb7⟩
        have HB7 := Lib.hid (HB6.out.more hb7)
        clear hb7
        go_wp2_with fail
        refine (append_bad HB7.out.seg.at'.seg _ 5 (by decide) (of_nohead _ _ (by rw [HMM.out]; exact HCS.out.2) 5 (by rw [HMM.out, HCS.out.1]; exact HMS.out) (by decide))).mono ?_
        rintro e w8 ⟨rfl, hb8⟩
        have HB8 := Lib.hid (HB7.out.more hb8)
        clear hb8
        go_wp2_with fail
        refine (append_bad HB8.out.seg.at'.seg _ 5 (by decide) (of_few { data := #[] } (by decide) _)).mono ?_
        rintro e w9 ⟨rfl, hb9⟩
        have HB9 := Lib.hid (HB8.out.more hb9)
        clear hb9
        go_wp2_with fail
        refine (told HB9.out.seg HB9.out.txt (by have := HTL.out; have := HL40.out; omega) (by have := HXL.out; have := HL40.out; omega) (by decide)).mono ?_
        rintro e w10 ⟨rfl, hb10⟩
        have HB10 := Lib.hid (HB9.out.more hb10)
        clear hb10
        rw [← HZZ.out]
        go_wp2_with fail
        refine (both_append HB10.out z HZ.out.1 HZ.out.2.1 (by have := HTL.out; have := HZ.out.2.2.1; have := HL40.out; omega)).mono ?_
        rintro e w11 ⟨rfl, fs', mv', hB11⟩
        have HB11 := Lib.hid hB11
        clear hB11
        go_wp2_with fail
        refine (awake _).mono ?_
        rintro e w12 ⟨rfl, hb12⟩
        go_wp2
        go_ret
        exact ⟨rfl, HB1.out.trans ((HB11.out.seg.below.trans (hb12.mono HB11.out.seg.below.size)).mono HB1.out.size)⟩
end Go.Proofs.YtnhemmjbodhjeaaGreat.Sg
