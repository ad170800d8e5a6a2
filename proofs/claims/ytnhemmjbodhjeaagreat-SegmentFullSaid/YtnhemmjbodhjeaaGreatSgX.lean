/- SegmentFull returns true, whatever its arguments are. No condition. -/
import Derived.Test.YtnhemmjbodhjeaaGreatSgV
import Derived.Test.YtnhemmjbodhjeaaGreatOpens3
import Derived.Test.YtnhemmjbodhjeaaGreatRh
import Derived.Deep.Cut
namespace Go.Proofs.YtnhemmjbodhjeaaGreat.Sg
open Go.RowKit Go.Maps Go.ChangeMaps Go.WideMaps Go.Proofs.YtnhemmjbodhjeaaGreat.Vd Go.Proofs.YtnhemmjbodhjeaaGreat.Rc Go.Proofs.YtnhemmjbodhjeaaGreat.Ba Go.Proofs.YtnhemmjbodhjeaaGreat.Rf Go.Proofs.YtnhemmjbodhjeaaGreat.Rg Go.Proofs.YtnhemmjbodhjeaaGreat.Opens
set_option linter.unusedVariables false
/-- a disk that is full refuses -/
theorem seg_full {w : World} {bs bd bm room : Nat} {name : ByteArray} {base : Nat} {fs : List Fil} {xs : List Bat} {mv : Value} (h : SegAt w bs bd bm room name base fs xs mv) (x : Bat) (hx : x.Ok) (hb : x.b = endOf base xs) (hn : xs.length ≤ 1048576) (hr : room < (text xs).length + x.l.length) :
    Calls Tryz.prog 20 #[.pointer (some ⟨bs, 0, none⟩), .string (Bt.str x.l)] w fun e w' => e = .returned (.int .i64 80) ∧ Below w.heap.size w w' := by
  have hsm := h.disk.small
  have S := h.seg
  have hml := marks_length xs
  have hsl := Bt.str_size x.l
  have hxl := hx.len
  have htot : total fs ≤ room := h.disk.roomy
  have hft : total fs = (text xs).length := by
    rcases h.file with ⟨rfl, rfl⟩ | ⟨f, rfl, _, hf⟩
    · rfl
    · simp [total, hf]
  have HD : ∀ W, Below w.heap.size w W → Calls Tryz.prog 14 #[.pointer (some ⟨bd, 0, none⟩), .string name, .string (Bt.str x.l)] W fun e w' => e = .returned (.int .i64 80) ∧ Below W.heap.size W w' ∧ SgAt w' bs bd name base (endOf base xs) (text xs).length xs.length mv (marks xs) ∧ ∀ k, w.heap.size ≤ k → k < W.heap.size → w'.heap[k]? = W.heap[k]? := by
    intro W hW
    have hc : Calls Tryz.prog 14 #[.pointer (some ⟨bd, 0, none⟩), .string name, .string (Bt.str x.l)] W fun e w' => e = .returned (.int .i64 80) ∧ Below W.heap.size W w' := by
      rcases h.file with ⟨rfl, rfl⟩ | ⟨f, rfl, hn2, hf⟩
      · exact append_noroom_new (h.disk.below hW) name _ h.good (by simp) (by simp) (by rw [hsl]; omega) (by rw [hsl, hft]; exact hr)
      · exact append_noroom (h.disk.below hW) f (by simp) name _ hn2 (by rw [hsl]; omega) (by rw [hsl, hft]; exact hr)
    refine hc.mono ?_
    rintro e w' ⟨rfl, hb'⟩
    exact ⟨rfl, hb', (S.below hW).below hb', fun k _ hk => hb'.block k hk⟩
  rw [← hb] at S HD
  refine (append_next x S hx (Bt.str x.l) (Bt.str_data _) (by omega) (by omega) (by omega) 80 (fun W w' => Below W.heap.size W w') HD).mono ?_
  rintro e w' ⟨rfl, W, w1, hbW, hPost, hor⟩
  rcases hor with ⟨_, rfl⟩ | ⟨h0, _⟩
  · exact ⟨rfl, hbW.trans (hPost.mono hbW.size)⟩
  · cases h0
def FullRel (W1 : World) (room n : Nat) (bs bd bm : Nat) (v i : Value) (wr : World) : Prop := ∃ (k : Nat) (xs : List Bat) (fs : List Fil) (mv : Value), i = .int .i64 k ∧ k ≤ n ∧ k ≤ 100 ∧ xs.length ≤ k ∧ (text xs).length ≤ room ∧ endOf 0 xs ≤ 8 * k ∧
  Both W1 wr bs bd bm room { data := #[115, 101, 103] } 0 fs xs mv xs v
set_option maxRecDepth 100000 in
set_option maxHeartbeats 4000000 in
theorem walk_full (room : Int) (_ : (Lit.int .i64 room).wf = true) (ap : Option Addr) (cap : Nat) (ss : List Rcp) (w : World) (hR : RcpsAt w ap ss) :
    Calls Tryz.prog 4 #[.int .i64 room, .slice ap ss.length cap] w fun e w' => e = .returned (.bool true) ∧ Below w.heap.size w w' := by
  have HR1 := Lib.hid hR
  clear hR
  obtain ⟨m, hm, hme⟩ := mask_nat room 2047 11 (by decide) (by decide)
  have hme' : bits .and .i64 room 2047 = (m : Int) := hme
  have HM := Lib.hid (show m < 2048 by simpa using hm)
  clear hm hme
  go_enter Tryz.func4, Tryz.ntmps4
  go_wp2_with fail
  refine (new_disk w m (by have := HM.out; omega)).mono ?_
  rintro e w1 ⟨rfl, O1⟩
  have HO1 := Lib.hid O1
  clear O1
  go_wp2_with fail
  refine (seg_open HO1.out.disk _ good_seg 0 (by decide)).mono ?_
  rintro e w2 ⟨b, rfl, hlt, hS, hB⟩
  have HS := Lib.hid (SegOwn.mk hS (HO1.out.below.trans (hB.mono HO1.out.below.size)) (Nat.le_trans HO1.out.below.size hlt) HO1.out.ge (fun k hk => by cases hk))
  clear hS hB hlt
  go_wp2_with fail
  go_loopw [10, 11] (fun v i wr => FullRel w m ss.length b _ _ v i wr) (fun _ i _ => ss.length - (intOf i).toNat)
  case atStart => exact ⟨0, [], [], .slice none 0 0, rfl, by omega, by omega, by simp, by simp [text], by simp [endOf], Both.start HS.out⟩
  case round =>
    obtain ⟨k, xs, fs, mv, rfl, hk, hk100, hxl, htl, hel, hBo⟩ := hrel
    obtain ⟨ap', cap', rfl⟩ := hBo.txt.form
    have HBO := Lib.hid hBo
    have HTL := Lib.hid htl
    have HEL := Lib.hid hel
    have HXL := Lib.hid (show xs.length ≤ 100 by omega)
    have HXK := Lib.hid hxl
    clear hBo htl hel hxl
    by_cases hlt : k < ss.length ∧ k < 100
    · obtain ⟨hlt, hlt2⟩ := hlt
      have hlt' : (k : Int) < (ss.length : Int) := by omega
      have hk0 : (0 : Int) ≤ (k : Int) := by omega
      obtain ⟨a, hap, hab, r0, r1, r2, r3, r4⟩ := (HR1.out.below HBO.out.seg.below) k hlt
      subst hap
      obtain ⟨y, hy⟩ : ∃ y, y = ss[k] := ⟨_, rfl⟩
      rw [← hy] at r0 r1 r2 r3 r4
      clear hy
      by_cases hv : (200 : Int) < (y.v.size : Int)
      · go_wp2_with fail
        refine (awake _).mono ?_
        rintro e w2 ⟨rfl, hb2⟩
        go_wp2
        go_ret
        exact ⟨rfl, HBO.out.seg.below.trans (hb2.mono HBO.out.seg.below.size)⟩
      · have HV := Lib.hid hv
        have hyv : y.v.size ≤ 4096 := by have := HV.out; omega
        obtain ⟨z, hz, hzb, hz1, hz2, hz3, hzm⟩ := made_any wr y.c y.k y.p y.q y.v (endOf 0 xs) (by have := HEL.out; omega) hyv
        have HMZ := Lib.hid hzm
        have HZ := Lib.hid hz
        have HZB := Lib.hid hzb
        have HZ3 := Lib.hid hz3
        have HZ2 := Lib.hid hz2
        have HAB := Lib.hid hab
        clear hzm hz hzb hz1 hz2 hz3 hyv hab
        have hl3 : (k : Int) < 100 := by omega
        have HLT := Lib.hid (And.intro hlt hlt2)
        clear hlt hk hk100 hlt2
        go_upto_region 13 with (fail)
        have hrl := Nat.le_refl wr.heap.size
        have HR0 := Lib.hid ((Below.refl wr.heap.size wr).drew)
        refine wp_region_seqo [0, 1, 2, 3, 4, 5, 6, 7, 8, 9, 10, 11] (S := (fun w' => Below wr.heap.size wr w' ∧ w'.cell? (a.add (k * 5)) = some (.int .i64 y.c) ∧ w'.cell? ⟨(a.add (k * 5)).block, (a.add (k * 5)).off + 1, none⟩ = some (.int .i64 y.k) ∧ w'.cell? ⟨(a.add (k * 5)).block, (a.add (k * 5)).off + 2, none⟩ = some (.int .i64 y.p) ∧ w'.cell? ⟨(a.add (k * 5)).block, (a.add (k * 5)).off + 3, none⟩ = some (.int .i64 y.q) ∧ w'.cell? ⟨(a.add (k * 5)).block, (a.add (k * 5)).off + 4, none⟩ = some (.string y.v))) (by kernel_rfl) (by kernel_rfl) ⟨HR0.out, r0, r1, r2, r3, r4⟩ ?_
        refine Seqo.light (v := ?_) rfl (by kernel_rfl) ?_ ?_
        rotate_left 1
        focus (intro w hSw; (try dsimp only at hSw); go_simp; try with_reducible rfl)
        try simp only [Act.put, List.setIfInBounds_toArray, List.set_cons_zero, List.set_cons_succ]
        refine Seqo.light (v := ?_) rfl (by kernel_rfl) ?_ ?_
        rotate_left 1
        focus (intro w hSw; (try dsimp only at hSw); go_simp; try with_reducible rfl)
        try simp only [Act.put, List.setIfInBounds_toArray, List.set_cons_zero, List.set_cons_succ]
        refine Seqo.light (v := ?_) rfl (by kernel_rfl) ?_ ?_
        rotate_left 1
        focus (intro w hSw; (try dsimp only at hSw); go_simp; try with_reducible rfl)
        try simp only [Act.put, List.setIfInBounds_toArray, List.set_cons_zero, List.set_cons_succ]
        refine Seqo.light (v := ?_) rfl (by kernel_rfl) ?_ ?_
        rotate_left 1
        focus (intro w hSw; (try dsimp only at hSw); go_simp; try with_reducible rfl)
        try simp only [Act.put, List.setIfInBounds_toArray, List.set_cons_zero, List.set_cons_succ]
        refine Seqo.light (v := ?_) rfl (by kernel_rfl) ?_ ?_
        rotate_left 1
        focus (intro w hSw; (try dsimp only at hSw); go_simp; try with_reducible rfl)
        try simp only [Act.put, List.setIfInBounds_toArray, List.set_cons_zero, List.set_cons_succ]
        refine Seqo.call (.int .i64 (endOf 0 xs)) rfl (by kernel_rfl) (by kernel_rfl) (fun w hSw => by (try dsimp only at hSw); go_simp; exact ⟨rfl, rfl⟩) ?_ ?_
        · intro w3 hSw
          refine (r_end 0 (HBO.out.more hSw.1).txt HBO.out.seg.at'.chain (by have := HXL.out; omega)).mono ?_
          rintro e w4 ⟨rfl, hb4⟩
          obtain ⟨d, d0, d1, d2, d3, d4⟩ := hSw
          have hlt5 : a.block < w3.heap.size := Nat.lt_of_lt_of_le HAB.out d.size
          have hq : ∀ z : Addr, z.block = a.block → w4.cell? z = w3.cell? z := fun z hz => by unfold World.cell?; rw [hb4.block _ (by rw [hz]; exact hlt5)]
          exact ⟨rfl, d.trans (hb4.mono d.size), (hq _ (Opens.add_block a _)).trans d0, (hq ⟨(a.add (k * 5)).block, _, none⟩ (Opens.add_block a _)).trans d1, (hq ⟨(a.add (k * 5)).block, _, none⟩ (Opens.add_block a _)).trans d2, (hq ⟨(a.add (k * 5)).block, _, none⟩ (Opens.add_block a _)).trans d3, (hq ⟨(a.add (k * 5)).block, _, none⟩ (Opens.add_block a _)).trans d4⟩
        try simp only [Act.put, List.setIfInBounds_toArray, List.set_cons_zero, List.set_cons_succ]
        refine Seqo.call (.tuple #[.string (Bt.str z.l), .bool true]) rfl (by kernel_rfl) (by kernel_rfl) (fun w hSw => by (try dsimp only at hSw); go_simp; exact ⟨rfl, rfl⟩) ?_ ?_
        · intro w3 hSw
          refine (HMZ.out w3).mono ?_
          rintro e w4 ⟨rfl, hb4⟩
          obtain ⟨d, d0, d1, d2, d3, d4⟩ := hSw
          have hlt5 : a.block < w3.heap.size := Nat.lt_of_lt_of_le HAB.out d.size
          have hq : ∀ z : Addr, z.block = a.block → w4.cell? z = w3.cell? z := fun z hz => by unfold World.cell?; rw [hb4.block _ (by rw [hz]; exact hlt5)]
          exact ⟨rfl, d.trans (hb4.mono d.size), (hq _ (Opens.add_block a _)).trans d0, (hq ⟨(a.add (k * 5)).block, _, none⟩ (Opens.add_block a _)).trans d1, (hq ⟨(a.add (k * 5)).block, _, none⟩ (Opens.add_block a _)).trans d2, (hq ⟨(a.add (k * 5)).block, _, none⟩ (Opens.add_block a _)).trans d3, (hq ⟨(a.add (k * 5)).block, _, none⟩ (Opens.add_block a _)).trans d4⟩
        try simp only [Act.put, List.setIfInBounds_toArray, List.set_cons_zero, List.set_cons_succ]
        refine Seqo.light (v := ?_) rfl (by kernel_rfl) ?_ ?_
        rotate_left 1
        focus (intro w hSw; (try dsimp only at hSw); go_simp; try with_reducible rfl)
        try simp only [Act.put, List.setIfInBounds_toArray, List.set_cons_zero, List.set_cons_succ]
        refine Seqo.light (v := ?_) rfl (by kernel_rfl) ?_ ?_
        rotate_left 1
        focus (intro w hSw; (try dsimp only at hSw); go_simp; try with_reducible rfl)
        try simp only [Act.put, List.setIfInBounds_toArray, List.set_cons_zero, List.set_cons_succ]
        refine Seqo.light (v := ?_) rfl (by kernel_rfl) ?_ ?_
        rotate_left 1
        focus (intro w hSw; (try dsimp only at hSw); go_simp; try with_reducible rfl)
        try simp only [Act.put, List.setIfInBounds_toArray, List.set_cons_zero, List.set_cons_succ]
        refine Seqo.light (v := ?_) rfl (by kernel_rfl) ?_ ?_
        rotate_left 1
        focus (intro w hSw; (try dsimp only at hSw); go_simp; try with_reducible rfl)
        try simp only [Act.put, List.setIfInBounds_toArray, List.set_cons_zero, List.set_cons_succ]
        refine Seqo.light (v := ?_) rfl (by kernel_rfl) ?_ ?_
        rotate_left 1
        focus (intro w hSw; (try dsimp only at hSw); go_simp; try with_reducible rfl)
        try simp only [Act.put, List.setIfInBounds_toArray, List.set_cons_zero, List.set_cons_succ]
        refine Seqo.nil fun w5 hS5 => ?_
        have HB5 := Lib.hid (HBO.out.more hS5.1)
        clear hS5 r0 r1 r2 r3 r4 HR0
        go_wp2_with fail
        refine (size_yes HB5.out.seg.at'.seg).mono ?_
        rintro e w6 ⟨rfl, rfl⟩
        obtain ⟨F, hF⟩ : ∃ F, F = (text xs).length + z.l.length := ⟨_, rfl⟩
        have hFF : ((text xs).length : Int) + ((Bt.str z.l).size : Int) = (F : Int) := by rw [Bt.str_size]; omega
        have hFw : IntKind.i64.wrap (F : Int) = (F : Int) := IntWalk.i64_in _ (by have := HTL.out; have := HZ3.out; have := HM.out; omega)
        have HF := Lib.hid hF
        clear hF
        by_cases hfit : F ≤ m
        · have HFIT := Lib.hid hfit
          go_wp2_with fail
          refine (both_append HB5.out z HZ.out HZB.out (by have := HF.out; have := HFIT.out; omega)).mono ?_
          rintro e w6 ⟨rfl, fs', mv', hB6⟩
          have HB6 := Lib.hid hB6
          have HT6 := Lib.hid (show Texts (w6.alloc (.cells #[.string (Bt.str z.l)] 9)) w.heap.size (.slice ap' xs.length cap') xs from World.ownsRow.alloc hB6.txt (.cells #[.string (Bt.str z.l)] 9))
          clear hB6
          go_wp2_with (at_builtin; go_loud (refine wpList_append_text rfl _ _ rfl w.heap.size _ xs rfl HT6.out w6.heap.size z rfl (heap_alloc_last _ _) (by have := HXL.out; omega) (Bt.le_alloc HB6.out.seg.below.size _) ?_; intro v' w7 hT7 hG7 hV7; have HB7 := Lib.hid ((HB6.out.more ((Below.refl _ _).alloc (Nat.le_refl _) _)).grow hT7 hG7 hV7); clear hT7 hG7 hV7))
          refine (told HB7.out.seg HB7.out.txt (by rw [text_snoc, List.length_append]; have := HF.out; have := HFIT.out; have := HM.out; omega) (by rw [List.length_append, List.length_singleton]; have := HXL.out; omega) (by decide)).mono ?_
          rintro e w8 ⟨rfl, hb8⟩
          have HB8 := Lib.hid (HB7.out.more hb8)
          clear hb8
          go_wp2_with fail
          go_roundw
          case rel => exact ⟨k + 1, xs ++ [z], fs', mv', by go_num, by have := HLT.out; omega, by have := HLT.out; omega, by rw [List.length_append, List.length_singleton]; have := HXK.out; omega, by rw [text_snoc, List.length_append]; have := HF.out; have := HFIT.out; omega, by rw [endOf_snoc]; have := HEL.out; have := HZ2.out; omega, HB8.out⟩
          case measure => have := HLT.out; simp [intOf]; omega
        · go_wp2_with fail
          refine (seg_full HB5.out.seg.at' z HZ.out HZB.out (by have := HXL.out; omega) (by have := HF.out; omega)).mono ?_
          rintro e w6 ⟨rfl, hb6⟩
          have HB6 := Lib.hid (HB5.out.more hb6)
          clear hb6
          go_wp2_with fail
          refine (told HB6.out.seg HB6.out.txt (by have := HTL.out; have := HM.out; omega) (by have := HXL.out; omega) (by decide)).mono ?_
          rintro e w7 ⟨rfl, hb7⟩
          have HB7 := Lib.hid (HB6.out.more hb7)
          clear hb7
          go_wp2_with fail
          go_roundw
          case rel => exact ⟨k + 1, xs, fs, mv, by go_num, by have := HLT.out; omega, by have := HLT.out; omega, by have := HXK.out; omega, HTL.out, by have := HEL.out; omega, HB7.out⟩
          case measure => have := HLT.out; simp [intOf]; omega
    · by_cases hkl : k < ss.length
      · have h100 : ¬ (k : Int) < 100 := by omega
        have hkl' : (k : Int) < (ss.length : Int) := by omega
        clear hlt hkl hk hk100
        go_wp2_with fail
        refine (awake _).mono ?_
        rintro e w2 ⟨rfl, hb2⟩
        go_wp2
        go_ret
        exact ⟨rfl, HBO.out.seg.below.trans (hb2.mono HBO.out.seg.below.size)⟩
      · have hkl' : ¬ (k : Int) < (ss.length : Int) := by omega
        clear hlt hkl hk hk100
        go_wp2_with fail
        refine (awake _).mono ?_
        rintro e w2 ⟨rfl, hb2⟩
        go_wp2
        go_ret
        exact ⟨rfl, HBO.out.seg.below.trans (hb2.mono HBO.out.seg.below.size)⟩
end Go.Proofs.YtnhemmjbodhjeaaGreat.Sg
