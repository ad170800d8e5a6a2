/- seglog: Append. -/
import Derived.Test.YtcioejacijkbcaaGreatDoorLgD
namespace Go.Proofs.YtcioejacijkbcaaGreatDoor.Lg
open Go.RowKit Go.Maps Go.ChangeMaps Go.WideMaps Go.Proofs.YtcioejacijkbcaaGreatDoor.Vd Go.Proofs.YtcioejacijkbcaaGreatDoor.Rc Go.Proofs.YtcioejacijkbcaaGreatDoor.Rg Go.Proofs.YtcioejacijkbcaaGreatDoor.Sg
set_option linter.unusedVariables false
section
variable {w0 w w' : World} {bl bd bm room limit : Nat} {fs fs' : List Fil} {v : Value} {ps qs : List Prt}
set_option maxRecDepth 100000 in
set_option maxHeartbeats 4000000 in
theorem l_app_order {p : Prt} (h : LogAt w0 w bl bd bm room limit fs v (qs ++ [p])) (x : Sg.Bat) (hx : x.Ok) (hne : x.b ≠ endOf p.base p.xs) (hn : (qs ++ [p]).length ≤ 900) :
    Calls Tryz.prog 9 #[.pointer (some ⟨bl, 0, none⟩), .string (Bt.str x.l)] w fun e w' => e = .returned (.int .i64 110) ∧ Below w.heap.size w w' := by
  have hc : ((x.b : Int) != (endOf p.base p.xs : Int)) = true := bne_iff_ne.2 (by omega)
  have hn : (qs ++ [p]).length ≤ 1000 := by omega
  clear hne
  have HN := Lib.hid hn
  have H0 := Lib.hid h
  have HX := Lib.hid hx
  have HG := Lib.hid (l_given h (by simp))
  have hsz : (Bt.str x.l).size = x.l.length := Bt.str_size _
  obtain ⟨hl1, hl2⟩ := hx.len
  have hq : ((x.l.length : Int) != ((Bt.str x.l).size : Int)) = false := by rw [hsz]; simp
  have HOF := Lib.hid (fun W => of_bat x hx [] (Bt.str x.l) (by rw [Bt.str_data, List.append_nil]) (by rw [hsz]; omega) W)
  clear h hx hn hsz hl1 hl2
  go_enter Tryz.func9, Tryz.ntmps9
  go_wp2_with fail
  refine HG.out.mono ?_
  rintro e w1 ⟨rfl, rfl⟩
  go_wp2_with fail
  refine (HOF.out _).mono ?_
  rintro e w1 ⟨⟨ap, cap, rfl, _⟩, hb⟩
  have HB := Lib.hid hb
  clear hb
  go_upto_region 6 with (fail)
  refine genw' ?_
  intro W hW
  have hcell : W.heap[w1.heap.size]? = some (.cells #[.int .i64 x.b, .int .i64 x.c, .int .i64 x.v, .int .i64 x.p, .int .i64 x.q, .slice ap x.rs.length cap] 59 (0, 0)) := by rw [hW]; exact heap_alloc_new w1 _
  have hBW : Below w.heap.size w W := by rw [hW]; exact HB.out.alloc HB.out.size _
  clear hW
  generalize w1.heap.size = bk at hcell ⊢
  have HBK := Lib.hid (Vd.lt_of_heap hcell)
  obtain ⟨z0, z1, z2, z3, z4, z5⟩ := Ba.cells6 hcell
  have HW := Lib.hid (H0.out.more hBW)
  have HBW := Lib.hid hBW
  clear hcell hBW z1 z2 z3 z4 z5
  have HR0 := Lib.hid ((Below.refl W.heap.size W).drew)
  refine wp_region_seqo [0, 1, 2, 3, 4] (S := (fun w' => Below W.heap.size W w' ∧ w'.cell? ⟨bk, 0, none⟩ = some (.int .i64 x.b))) (by kernel_rfl) (by kernel_rfl) ⟨HR0.out, z0⟩ ?_
  refine Seqo.light (v := ?_) rfl (by kernel_rfl) ?_ ?_
  rotate_left 1
  focus (intro w hSw; (try dsimp only at hSw); go_simp; try with_reducible rfl)
  try simp only [Act.put, List.setIfInBounds_toArray, List.set_cons_zero, List.set_cons_succ]
  refine Seqo.light (v := ?_) rfl (by kernel_rfl) ?_ ?_
  rotate_left 1
  focus (intro w hSw; (try dsimp only at hSw); go_simp; try with_reducible rfl)
  try simp only [Act.put, List.setIfInBounds_toArray, List.set_cons_zero, List.set_cons_succ]
  refine Seqo.light (v := ?_) rfl (by kernel_rfl) ?_ ?_
  rotate_left 1
  focus (intro w hSw; (try dsimp only at hSw); go_simp; try with_reducible rfl)
  try simp only [Act.put, List.setIfInBounds_toArray, List.set_cons_zero, List.set_cons_succ]
  refine Seqo.call (.int .i64 (endOf p.base p.xs)) rfl (by kernel_rfl) (by kernel_rfl) (fun w hSw => by (try dsimp only at hSw); go_simp; exact ⟨rfl, rfl⟩) ?_ ?_
  · intro w3 hSw
    refine (l_end (HW.out.more hSw.1) p qs rfl HN.out).mono ?_
    rintro e w4 ⟨rfl, hb4⟩
    exact ⟨rfl, hSw.1.trans (hb4.mono hSw.1.size), (hb4.cell (p := ⟨bk, 0, none⟩) (Nat.lt_of_lt_of_le HBK.out hSw.1.size)).trans hSw.2⟩
  try simp only [Act.put, List.setIfInBounds_toArray, List.set_cons_zero, List.set_cons_succ]
  refine Seqo.light (v := ?_) rfl (by kernel_rfl) ?_ ?_
  rotate_left 1
  focus (intro w hSw; (try dsimp only at hSw); go_simp; try with_reducible rfl)
  try simp only [Act.put, List.setIfInBounds_toArray, List.set_cons_zero, List.set_cons_succ]
  refine Seqo.nil fun w5 hS5 => ?_
  have H5 := Lib.hid (HW.out.more hS5.1)
  have HB5 := Lib.hid (HBW.out.trans (hS5.1.mono HBW.out.size))
  clear hS5 z0 HR0
  go_wp2
  go_ret
  exact ⟨rfl, HB5.out⟩
set_option maxRecDepth 100000 in
set_option maxHeartbeats 4000000 in
theorem l_app_in {p : Prt} (h : LogAt w0 w bl bd bm room limit fs v (qs ++ [p])) (x : Sg.Bat) (hx : x.Ok) (heq : x.b = endOf p.base p.xs) (hn : (qs ++ [p]).length ≤ 900) (hlim : (text p.xs).length < limit) (hlm : limit ≤ 16777216)
    (hxl : p.xs.length ≤ 1000) (hlen : fs.length < 256) (hr : total fs + x.l.length ≤ room) :
    Calls Tryz.prog 9 #[.pointer (some ⟨bl, 0, none⟩), .string (Bt.str x.l)] w fun e w' => e = .returned (.int .i64 0) ∧ ∃ fs' mv', LogAt w0 w' bl bd bm room limit fs' v (qs ++ [p.more x mv']) ∧ (∀ n, n ≠ nm p.base → look fs' n = look fs n) ∧ look fs' (nm p.base) = some (text (p.xs ++ [x])) ∧ total fs' = total fs + x.l.length ∧ fs'.length ≤ fs.length + 1 := by
  have HF := Lib.hid (And.intro heq (And.intro hlim (And.intro hlm (And.intro hxl (And.intro hlen hr)))))
  have hn : (qs ++ [p]).length ≤ 1000 := by omega
  have hfp := fun W a => field_part W a 0
  clear heq hlim hlm hxl hlen hr
  have HN := Lib.hid hn
  have H0 := Lib.hid h
  have HX := Lib.hid hx
  have HG := Lib.hid (l_given h (by simp))
  have hsz : (Bt.str x.l).size = x.l.length := Bt.str_size _
  obtain ⟨hl1, hl2⟩ := hx.len
  have hq : ((x.l.length : Int) != ((Bt.str x.l).size : Int)) = false := by rw [hsz]; simp
  have HOF := Lib.hid (fun W => of_bat x hx [] (Bt.str x.l) (by rw [Bt.str_data, List.append_nil]) (by rw [hsz]; omega) W)
  clear h hx hn hsz hl1 hl2
  go_enter Tryz.func9, Tryz.ntmps9
  go_wp2_with fail
  refine HG.out.mono ?_
  rintro e w1 ⟨rfl, rfl⟩
  go_wp2_with fail
  refine (HOF.out _).mono ?_
  rintro e w1 ⟨⟨ap, cap, rfl, _⟩, hb⟩
  have HB := Lib.hid hb
  clear hb
  go_upto_region 6 with (fail)
  refine genw' ?_
  intro W hW
  have hcell : W.heap[w1.heap.size]? = some (.cells #[.int .i64 x.b, .int .i64 x.c, .int .i64 x.v, .int .i64 x.p, .int .i64 x.q, .slice ap x.rs.length cap] 59 (0, 0)) := by rw [hW]; exact heap_alloc_new w1 _
  have hBW : Below w.heap.size w W := by rw [hW]; exact HB.out.alloc HB.out.size _
  clear hW
  generalize w1.heap.size = bk at hcell ⊢
  have HBK := Lib.hid (Vd.lt_of_heap hcell)
  obtain ⟨z0, z1, z2, z3, z4, z5⟩ := Ba.cells6 hcell
  have HW := Lib.hid (H0.out.more hBW)
  have HBW := Lib.hid hBW
  clear hcell hBW z1 z2 z3 z4 z5
  have HR0 := Lib.hid ((Below.refl W.heap.size W).drew)
  refine wp_region_seqo [0, 1, 2, 3, 4] (S := (fun w' => Below W.heap.size W w' ∧ w'.cell? ⟨bk, 0, none⟩ = some (.int .i64 x.b))) (by kernel_rfl) (by kernel_rfl) ⟨HR0.out, z0⟩ ?_
  refine Seqo.light (v := ?_) rfl (by kernel_rfl) ?_ ?_
  rotate_left 1
  focus (intro w hSw; (try dsimp only at hSw); go_simp; try with_reducible rfl)
  try simp only [Act.put, List.setIfInBounds_toArray, List.set_cons_zero, List.set_cons_succ]
  refine Seqo.light (v := ?_) rfl (by kernel_rfl) ?_ ?_
  rotate_left 1
  focus (intro w hSw; (try dsimp only at hSw); go_simp; try with_reducible rfl)
  try simp only [Act.put, List.setIfInBounds_toArray, List.set_cons_zero, List.set_cons_succ]
  refine Seqo.light (v := ?_) rfl (by kernel_rfl) ?_ ?_
  rotate_left 1
  focus (intro w hSw; (try dsimp only at hSw); go_simp; try with_reducible rfl)
  try simp only [Act.put, List.setIfInBounds_toArray, List.set_cons_zero, List.set_cons_succ]
  refine Seqo.call (.int .i64 x.b) rfl (by kernel_rfl) (by kernel_rfl) (fun w hSw => by (try dsimp only at hSw); go_simp; exact ⟨rfl, rfl⟩) ?_ ?_
  · intro w3 hSw
    refine (show Calls _ _ _ _ (fun e w' => e = .returned (.int .i64 x.b) ∧ Below w3.heap.size w3 w') from by rw [HF.out.1]; exact l_end (HW.out.more hSw.1) p qs rfl HN.out).mono ?_
    rintro e w4 ⟨rfl, hb4⟩
    exact ⟨rfl, hSw.1.trans (hb4.mono hSw.1.size), (hb4.cell (p := ⟨bk, 0, none⟩) (Nat.lt_of_lt_of_le HBK.out hSw.1.size)).trans hSw.2⟩
  try simp only [Act.put, List.setIfInBounds_toArray, List.set_cons_zero, List.set_cons_succ]
  refine Seqo.light (v := ?_) rfl (by kernel_rfl) ?_ ?_
  rotate_left 1
  focus (intro w hSw; (try dsimp only at hSw); go_simp; try with_reducible rfl)
  try simp only [Act.put, List.setIfInBounds_toArray, List.set_cons_zero, List.set_cons_succ]
  refine Seqo.nil fun w5 hS5 => ?_
  have H5 := Lib.hid (HW.out.more hS5.1)
  have HB5 := Lib.hid (HBW.out.trans (hS5.1.mono HBW.out.size))
  clear hS5 z0 HR0
  have HBL := Lib.hid (Vd.lt_of_heap H5.out.cell)
  obtain ⟨T, hTe⟩ : ∃ T, T = (text p.xs).length := ⟨_, rfl⟩
  have HTE := Lib.hid hTe
  clear hTe hq
  obtain ⟨c0, c1, c2⟩ := cells3 H5.out.cell
  have HR5 := Lib.hid ((Below.refl w5.heap.size w5).drew)
  go_upto_region 8 with (fail)
  refine wp_region_seqo [0, 1, 2, 3, 4, 5, 6, 7, 8] (S := (fun w' => Below w5.heap.size w5 w' ∧ w'.cell? ⟨bl, 1, none⟩ = some (.int .i64 limit))) (by kernel_rfl) (by kernel_rfl) ⟨HR5.out, c1⟩ ?_
  refine Seqo.light (v := ?_) rfl (by kernel_rfl) ?_ ?_
  rotate_left 1
  focus (intro w hSw; (try dsimp only at hSw); go_simp; try with_reducible rfl)
  try simp only [Act.put, List.setIfInBounds_toArray, List.set_cons_zero, List.set_cons_succ]
  refine Seqo.call (.agg #[.pointer (some ⟨p.bs, 0, none⟩), .int .i64 0]) rfl (by kernel_rfl) (by kernel_rfl) (fun w hSw => by (try dsimp only at hSw); go_simp; exact ⟨rfl, rfl⟩) ?_ ?_
  · intro w3 hSw
    refine (l_last (H5.out.more hSw.1) p qs rfl HN.out).mono ?_
    rintro e w4 ⟨rfl, hb4⟩
    exact ⟨rfl, hSw.1.trans (hb4.mono hSw.1.size), (hb4.cell (p := ⟨bl, 1, none⟩) (Nat.lt_of_lt_of_le HBL.out hSw.1.size)).trans hSw.2⟩
  try simp only [Act.put, List.setIfInBounds_toArray, List.set_cons_zero, List.set_cons_succ]
  refine Seqo.light (v := ?_) rfl (by kernel_rfl) ?_ ?_
  rotate_left 1
  focus (intro w hSw; (try dsimp only at hSw); go_simp; try with_reducible rfl)
  try simp only [Act.put, List.setIfInBounds_toArray, List.set_cons_zero, List.set_cons_succ]
  refine Seqo.call (.int .i64 T) rfl (by kernel_rfl) (by kernel_rfl) (fun w hSw => by (try dsimp only at hSw); go_simp; exact ⟨rfl, rfl⟩) ?_ ?_
  · intro w3 hSw
    refine (show Calls _ _ _ _ (fun e w' => e = .returned (.int .i64 T) ∧ w3 = w') from by rw [HTE.out]; exact size_yes ((H5.out.more hSw.1).part p (by simp)).seg).mono ?_
    rintro e w4 ⟨rfl, rfl⟩
    exact ⟨rfl, hSw⟩
  try simp only [Act.put, List.setIfInBounds_toArray, List.set_cons_zero, List.set_cons_succ]
  refine Seqo.light (v := ?_) rfl (by kernel_rfl) ?_ ?_
  rotate_left 1
  focus (intro w hSw; (try dsimp only at hSw); go_simp; try with_reducible rfl)
  try simp only [Act.put, List.setIfInBounds_toArray, List.set_cons_zero, List.set_cons_succ]
  refine Seqo.light (v := ?_) rfl (by kernel_rfl) ?_ ?_
  rotate_left 1
  focus (intro w hSw; (try dsimp only at hSw); go_simp; try with_reducible rfl)
  try simp only [Act.put, List.setIfInBounds_toArray, List.set_cons_zero, List.set_cons_succ]
  refine Seqo.light (v := ?_) rfl (by kernel_rfl) ?_ ?_
  rotate_left 1
  focus (intro w hSw; (try dsimp only at hSw); go_simp; try with_reducible rfl)
  try simp only [Act.put, List.setIfInBounds_toArray, List.set_cons_zero, List.set_cons_succ]
  refine Seqo.light (v := ?_) rfl (by kernel_rfl) ?_ ?_
  rotate_left 1
  focus (intro w hSw; (try dsimp only at hSw); go_simp; try with_reducible rfl)
  try simp only [Act.put, List.setIfInBounds_toArray, List.set_cons_zero, List.set_cons_succ]
  refine Seqo.light (v := ?_) rfl (by kernel_rfl) ?_ ?_
  rotate_left 1
  focus (intro w hSw; (try dsimp only at hSw); go_simp; try with_reducible rfl)
  try simp only [Act.put, List.setIfInBounds_toArray, List.set_cons_zero, List.set_cons_succ]
  refine Seqo.nil fun w6 hS6 => ?_
  have H6 := Lib.hid (H5.out.more hS6.1)
  have HB6 := Lib.hid (HB5.out.trans (hS6.1.mono HB5.out.size))
  clear hS6 c0 c1 c2 HR5
  have hT : ¬ limit ≤ T := by have := HF.out.2.1; have := HTE.out; omega
  go_wp2_with fail
  refine (l_last H6.out p qs rfl HN.out).mono ?_
  rintro e w7 ⟨rfl, hb7⟩
  have H7 := Lib.hid (H6.out.more hb7)
  clear hb7
  go_wp2_with fail
  refine (seg_in_append H7.out.disk (H7.out.part p (by simp)) (H7.out.dsk _ (mem_own_bs (v := v) (bl := bl) (p := p) (by simp))) (fun k hk => H7.out.dsk _ (mem_own_mv (v := v) (bl := bl) (p := p) (by simp) hk)) x HX.out HF.out.1 (by have := HF.out.2.2.2.1; omega) HF.out.2.2.2.2.1 HF.out.2.2.2.2.2 (by have := HF.out.2.1; have := HF.out.2.2.1; omega)).mono ?_
  rintro e w8 ⟨rfl, fs', mv', hG⟩
  have HGR := Lib.hid hG
  clear hG
  go_wp2
  go_ret
  refine ⟨rfl, fs', mv', H7.out.grew HGR.out, HGR.out.other, ?_, HGR.out.tot, HGR.out.few⟩
  rcases HGR.out.seg.file with h1 | ⟨_, h1⟩
  · exact h1
  · simp at h1
set_option maxRecDepth 100000 in
set_option maxHeartbeats 4000000 in
theorem l_app_roll {p : Prt} (h : LogAt w0 w bl bd bm room limit fs v (qs ++ [p])) (x : Sg.Bat) (hx : x.Ok) (heq : x.b = endOf p.base p.xs) (hn : (qs ++ [p]).length ≤ 900) (hlim : limit ≤ (text p.xs).length) (hlm : limit ≤ 16777216)
    (u : Nat) (hu : endOf p.base p.xs = u) (hu3 : u = 0 ∨ u = 3) (hnew : u ∉ (qs ++ [p]).map Prt.base) (hno : look fs (nm u) = none) (hfr : look fs fresh = none) (l : List UInt8) (hl : look fs (nm p.base) = some l)
    (hlen : fs.length < 255) (hr : total fs + 4 * ((qs ++ [p]).length + 1) + x.l.length ≤ room) :
    Calls Tryz.prog 9 #[.pointer (some ⟨bl, 0, none⟩), .string (Bt.str x.l)] w fun e w' => e = .returned (.int .i64 0) ∧ ∃ fs' v' b mv', LogAt w0 w' bl bd bm room limit fs' v' (qs ++ [p] ++ [(Prt.mk b u [] (.slice none 0 0)).more x mv']) := by
  have HRO := Lib.hid (fun (W : World) (H : LogAt w0 W bl bd bm room limit fs v (qs ++ [p])) => l_rolls H p rfl u hu hu3 hnew hno hfr l hl (by omega) (by omega) hn)
  have HF := Lib.hid (And.intro heq (And.intro hlim (And.intro hlm (And.intro hu (And.intro hu3 (And.intro hfr (And.intro hlen hr)))))))
  have hnoo := Lib.hid (And.intro hno hn)
  have hn : (qs ++ [p]).length ≤ 1000 := by omega
  have hfp := fun W a => field_part W a 0
  clear heq hlim hlm hlen hr hnew hno hfr hl hu hu3
  have HN := Lib.hid hn
  have H0 := Lib.hid h
  have HX := Lib.hid hx
  have HG := Lib.hid (l_given h (by simp))
  have hsz : (Bt.str x.l).size = x.l.length := Bt.str_size _
  obtain ⟨hl1, hl2⟩ := hx.len
  have hq : ((x.l.length : Int) != ((Bt.str x.l).size : Int)) = false := by rw [hsz]; simp
  have HOF := Lib.hid (fun W => of_bat x hx [] (Bt.str x.l) (by rw [Bt.str_data, List.append_nil]) (by rw [hsz]; omega) W)
  clear h hx hn hsz hl1 hl2
  go_enter Tryz.func9, Tryz.ntmps9
  go_wp2_with fail
  refine HG.out.mono ?_
  rintro e w1 ⟨rfl, rfl⟩
  go_wp2_with fail
  refine (HOF.out _).mono ?_
  rintro e w1 ⟨⟨ap, cap, rfl, _⟩, hb⟩
  have HB := Lib.hid hb
  clear hb
  go_upto_region 6 with (fail)
  refine genw' ?_
  intro W hW
  have hcell : W.heap[w1.heap.size]? = some (.cells #[.int .i64 x.b, .int .i64 x.c, .int .i64 x.v, .int .i64 x.p, .int .i64 x.q, .slice ap x.rs.length cap] 59 (0, 0)) := by rw [hW]; exact heap_alloc_new w1 _
  have hBW : Below w.heap.size w W := by rw [hW]; exact HB.out.alloc HB.out.size _
  clear hW
  generalize w1.heap.size = bk at hcell ⊢
  have HBK := Lib.hid (Vd.lt_of_heap hcell)
  obtain ⟨z0, z1, z2, z3, z4, z5⟩ := Ba.cells6 hcell
  have HW := Lib.hid (H0.out.more hBW)
  have HBW := Lib.hid hBW
  clear hcell hBW z1 z2 z3 z4 z5
  have HR0 := Lib.hid ((Below.refl W.heap.size W).drew)
  refine wp_region_seqo [0, 1, 2, 3, 4] (S := (fun w' => Below W.heap.size W w' ∧ w'.cell? ⟨bk, 0, none⟩ = some (.int .i64 x.b))) (by kernel_rfl) (by kernel_rfl) ⟨HR0.out, z0⟩ ?_
  refine Seqo.light (v := ?_) rfl (by kernel_rfl) ?_ ?_
  rotate_left 1
  focus (intro w hSw; (try dsimp only at hSw); go_simp; try with_reducible rfl)
  try simp only [Act.put, List.setIfInBounds_toArray, List.set_cons_zero, List.set_cons_succ]
  refine Seqo.light (v := ?_) rfl (by kernel_rfl) ?_ ?_
  rotate_left 1
  focus (intro w hSw; (try dsimp only at hSw); go_simp; try with_reducible rfl)
  try simp only [Act.put, List.setIfInBounds_toArray, List.set_cons_zero, List.set_cons_succ]
  refine Seqo.light (v := ?_) rfl (by kernel_rfl) ?_ ?_
  rotate_left 1
  focus (intro w hSw; (try dsimp only at hSw); go_simp; try with_reducible rfl)
  try simp only [Act.put, List.setIfInBounds_toArray, List.set_cons_zero, List.set_cons_succ]
  refine Seqo.call (.int .i64 x.b) rfl (by kernel_rfl) (by kernel_rfl) (fun w hSw => by (try dsimp only at hSw); go_simp; exact ⟨rfl, rfl⟩) ?_ ?_
  · intro w3 hSw
    refine (show Calls _ _ _ _ (fun e w' => e = .returned (.int .i64 x.b) ∧ Below w3.heap.size w3 w') from by rw [HF.out.1]; exact l_end (HW.out.more hSw.1) p qs rfl HN.out).mono ?_
    rintro e w4 ⟨rfl, hb4⟩
    exact ⟨rfl, hSw.1.trans (hb4.mono hSw.1.size), (hb4.cell (p := ⟨bk, 0, none⟩) (Nat.lt_of_lt_of_le HBK.out hSw.1.size)).trans hSw.2⟩
  try simp only [Act.put, List.setIfInBounds_toArray, List.set_cons_zero, List.set_cons_succ]
  refine Seqo.light (v := ?_) rfl (by kernel_rfl) ?_ ?_
  rotate_left 1
  focus (intro w hSw; (try dsimp only at hSw); go_simp; try with_reducible rfl)
  try simp only [Act.put, List.setIfInBounds_toArray, List.set_cons_zero, List.set_cons_succ]
  refine Seqo.nil fun w5 hS5 => ?_
  have H5 := Lib.hid (HW.out.more hS5.1)
  have HB5 := Lib.hid (HBW.out.trans (hS5.1.mono HBW.out.size))
  clear hS5 z0 HR0
  have HBL := Lib.hid (Vd.lt_of_heap H5.out.cell)
  obtain ⟨T, hTe⟩ : ∃ T, T = (text p.xs).length := ⟨_, rfl⟩
  have HTE := Lib.hid hTe
  clear hTe hq
  obtain ⟨c0, c1, c2⟩ := cells3 H5.out.cell
  have HR5 := Lib.hid ((Below.refl w5.heap.size w5).drew)
  go_upto_region 8 with (fail)
  refine wp_region_seqo [0, 1, 2, 3, 4, 5, 6, 7, 8] (S := (fun w' => Below w5.heap.size w5 w' ∧ w'.cell? ⟨bl, 1, none⟩ = some (.int .i64 limit))) (by kernel_rfl) (by kernel_rfl) ⟨HR5.out, c1⟩ ?_
  refine Seqo.light (v := ?_) rfl (by kernel_rfl) ?_ ?_
  rotate_left 1
  focus (intro w hSw; (try dsimp only at hSw); go_simp; try with_reducible rfl)
  try simp only [Act.put, List.setIfInBounds_toArray, List.set_cons_zero, List.set_cons_succ]
  refine Seqo.call (.agg #[.pointer (some ⟨p.bs, 0, none⟩), .int .i64 0]) rfl (by kernel_rfl) (by kernel_rfl) (fun w hSw => by (try dsimp only at hSw); go_simp; exact ⟨rfl, rfl⟩) ?_ ?_
  · intro w3 hSw
    refine (l_last (H5.out.more hSw.1) p qs rfl HN.out).mono ?_
    rintro e w4 ⟨rfl, hb4⟩
    exact ⟨rfl, hSw.1.trans (hb4.mono hSw.1.size), (hb4.cell (p := ⟨bl, 1, none⟩) (Nat.lt_of_lt_of_le HBL.out hSw.1.size)).trans hSw.2⟩
  try simp only [Act.put, List.setIfInBounds_toArray, List.set_cons_zero, List.set_cons_succ]
  refine Seqo.light (v := ?_) rfl (by kernel_rfl) ?_ ?_
  rotate_left 1
  focus (intro w hSw; (try dsimp only at hSw); go_simp; try with_reducible rfl)
  try simp only [Act.put, List.setIfInBounds_toArray, List.set_cons_zero, List.set_cons_succ]
  refine Seqo.call (.int .i64 T) rfl (by kernel_rfl) (by kernel_rfl) (fun w hSw => by (try dsimp only at hSw); go_simp; exact ⟨rfl, rfl⟩) ?_ ?_
  · intro w3 hSw
    refine (show Calls _ _ _ _ (fun e w' => e = .returned (.int .i64 T) ∧ w3 = w') from by rw [HTE.out]; exact size_yes ((H5.out.more hSw.1).part p (by simp)).seg).mono ?_
    rintro e w4 ⟨rfl, rfl⟩
    exact ⟨rfl, hSw⟩
  try simp only [Act.put, List.setIfInBounds_toArray, List.set_cons_zero, List.set_cons_succ]
  refine Seqo.light (v := ?_) rfl (by kernel_rfl) ?_ ?_
  rotate_left 1
  focus (intro w hSw; (try dsimp only at hSw); go_simp; try with_reducible rfl)
  try simp only [Act.put, List.setIfInBounds_toArray, List.set_cons_zero, List.set_cons_succ]
  refine Seqo.light (v := ?_) rfl (by kernel_rfl) ?_ ?_
  rotate_left 1
  focus (intro w hSw; (try dsimp only at hSw); go_simp; try with_reducible rfl)
  try simp only [Act.put, List.setIfInBounds_toArray, List.set_cons_zero, List.set_cons_succ]
  refine Seqo.light (v := ?_) rfl (by kernel_rfl) ?_ ?_
  rotate_left 1
  focus (intro w hSw; (try dsimp only at hSw); go_simp; try with_reducible rfl)
  try simp only [Act.put, List.setIfInBounds_toArray, List.set_cons_zero, List.set_cons_succ]
  refine Seqo.light (v := ?_) rfl (by kernel_rfl) ?_ ?_
  rotate_left 1
  focus (intro w hSw; (try dsimp only at hSw); go_simp; try with_reducible rfl)
  try simp only [Act.put, List.setIfInBounds_toArray, List.set_cons_zero, List.set_cons_succ]
  refine Seqo.light (v := ?_) rfl (by kernel_rfl) ?_ ?_
  rotate_left 1
  focus (intro w hSw; (try dsimp only at hSw); go_simp; try with_reducible rfl)
  try simp only [Act.put, List.setIfInBounds_toArray, List.set_cons_zero, List.set_cons_succ]
  refine Seqo.nil fun w6 hS6 => ?_
  have H6 := Lib.hid (H5.out.more hS6.1)
  have HB6 := Lib.hid (HB5.out.trans (hS6.1.mono HB5.out.size))
  clear hS6 c0 c1 c2 HR5
  have hT : limit ≤ T := by have := HF.out.2.1; have := HTE.out; omega
  go_wp2_with fail
  refine (HRO.out _ H6.out).mono ?_
  rintro e w7 ⟨rfl, fs7, v7, b, h7, k1, k2, k3, k4, k5⟩
  have H7 := Lib.hid h7
  have HK := Lib.hid (And.intro k3 (And.intro k4 k5))
  clear h7 k1 k2 k3 k4 k5
  go_wp2_with fail
  refine (l_last H7.out _ (qs ++ [p]) rfl (by have := HN.out; have := hnoo.out.2; simp only [List.length_append, List.length_singleton] at *; omega)).mono ?_
  rintro e w8 ⟨rfl, hb8⟩
  have H8 := Lib.hid (H7.out.more hb8)
  clear hb8
  go_wp2_with fail
  refine (seg_in_append H8.out.disk (H8.out.part (Prt.mk b u [] (.slice none 0 0)) (by simp)) (H8.out.dsk _ (mem_own_bs (v := v7) (bl := bl) (p := Prt.mk b u [] (.slice none 0 0)) (by simp))) (fun k hk => H8.out.dsk _ (mem_own_mv (v := v7) (bl := bl) (p := Prt.mk b u [] (.slice none 0 0)) (by simp) hk)) x HX.out (by rw [HF.out.1, HF.out.2.2.2.1]; simp [endOf]) (by simp) (by have := HK.out.2.2; have := HF.out.2.2.2.2.2.2.1; omega) (by have := HK.out.2.1; have := HF.out.2.2.2.2.2.2.2; omega) (by simp [text])).mono ?_
  rintro e w9 ⟨rfl, fs', mv', hG⟩
  have HGR := Lib.hid hG
  clear hG
  go_wp2
  go_ret
  exact ⟨rfl, fs', v7, b, mv', H8.out.grew HGR.out⟩
end
end Go.Proofs.YtcioejacijkbcaaGreatDoor.Lg
/- seglog: Segments; Batch of a log of two parts. -/
namespace Go.Proofs.YtcioejacijkbcaaGreatDoor.Lg
open Go.RowKit Go.Maps Go.ChangeMaps Go.WideMaps Go.Proofs.YtcioejacijkbcaaGreatDoor.Vd Go.Proofs.YtcioejacijkbcaaGreatDoor.Rc Go.Proofs.YtcioejacijkbcaaGreatDoor.Rg Go.Proofs.YtcioejacijkbcaaGreatDoor.Sg
set_option linter.unusedVariables false
theorem infoI : ((Tryz.prog.info? 3).map fun i => (i.zero, i.size, i.bytes)) = some (some (.int .i64 0), 1, 8) := by kernel_rfl
def Ints (w : World) (B : Nat) (v : Value) (ps : List Prt) : Prop := w.ownsRow B 3 1 v ps.length (ps.map fun p : Prt => Value.int .i64 p.base)
section
variable {w0 w w' : World} {bl bd bm room limit : Nat} {fs fs' : List Fil} {v : Value} {ps qs : List Prt}
set_option maxRecDepth 100000 in
set_option maxHeartbeats 2000000 in
theorem l_segments (h : LogAt w0 w bl bd bm room limit fs v ps) (hn0 : 0 < ps.length) (hn : ps.length ≤ 900) :
    Calls Tryz.prog 10 #[.pointer (some ⟨bl, 0, none⟩)] w fun e w' => ∃ v', e = .returned v' ∧ Ints w' w.heap.size v' ps ∧ Below w.heap.size w w' := by
  obtain ⟨g, cap, rfl⟩ := h.row.form hn0
  have HG := Lib.hid (l_given h hn0)
  have H0 := Lib.hid h
  have HN := Lib.hid hn
  obtain ⟨c0, c1, c2⟩ := cells3 h.cell
  obtain ⟨i0, hi, hz0, hz1, hz2⟩ := Bt.info_parts infoI
  have HI := Lib.hid (And.intro hi (And.intro hz0 (And.intro hz1 hz2)))
  clear h hn hi hz0 hz1 hz2
  go_enter Tryz.func10, Tryz.ntmps10
  go_wp2_with fail
  refine HG.out.mono ?_
  rintro e w1 ⟨rfl, rfl⟩
  go_wp2_with fail
  clear c0 c1 c2
  go_loopw [3, 14] (fun o i wr => ∃ k : Nat, i = .int .i64 k ∧ k ≤ ps.length ∧ Ints wr w.heap.size o (ps.take k) ∧ Below w.heap.size w wr) (fun _ i _ => ps.length - (intOf i).toNat)
  case atStart => exact ⟨0, rfl, by omega, World.ownsRow_nil _ _ _ _, Below.refl _ _⟩
  case round =>
    obtain ⟨k, rfl, hk, hI, hW⟩ := hrel
    have HW := Lib.hid hW
    have HIN := Lib.hid hI
    clear hW hI
    by_cases hlt : k < ps.length
    · have hlt' : (k : Int) < (ps.length : Int) := by omega
      have hk0 : (0 : Int) ≤ (k : Int) := by omega
      have hk9 : (k : Int) ≤ 1000 := by have := HN.out; omega
      obtain ⟨p, hpk⟩ : ∃ p, p = ps[k] := ⟨_, rfl⟩
      have HP := Lib.hid (H0.out.part p (by rw [hpk]; exact List.getElem_mem _))
      have hrr : Parts wr (.slice (some ⟨g, 0, none⟩) ps.length cap) ps := Vd.ownsRow_at H0.out.row fun j hj => HW.out.block j (World.ownsRow.lt H0.out.row j hj).2
      obtain ⟨_, g', hg', c0, c1⟩ := hrr.cell k hlt
      cases hg'
      rw [← hpk] at c0
      have htk : ps.take (k + 1) = ps.take k ++ [p] := by rw [List.take_succ_eq_append_getElem hlt, hpk]
      have HTK := Lib.hid htk
      have HAL := Lib.hid (heap_alloc_new wr (.cells #[.pointer (some ⟨p.bs, 0, none⟩), .int .i64 0] 66))
      obtain ⟨a0, a1⟩ := cells2 HAL.out
      have hb1 := (Below.refl wr.heap.size wr).alloc (Nat.le_refl _) (.cells #[.pointer (some ⟨p.bs, 0, none⟩), .int .i64 0] 66)
      have HP1 := Lib.hid (HP.out.below (HW.out.trans (hb1.mono HW.out.size)))
      have HB1 := Lib.hid hb1
      have hll : (ps.take k).length = k := List.length_take_of_le hk
      have HLL := Lib.hid hll
      have hla := heap_alloc_new (wr.alloc (.cells #[.pointer (some ⟨p.bs, 0, none⟩), .int .i64 0] 66)) (.cells #[.int .i64 p.base] 3)
      rw [show (wr.alloc (.cells #[.pointer (some ⟨p.bs, 0, none⟩), .int .i64 0] 66)).heap.size = wr.heap.size + 1 from by show (wr.heap.push _).size = _; simp] at hla
      have HLA := Lib.hid hla
      clear hpk hrr htk hb1 hll hla
      go_wp2_with fail
      refine (base_yes HP1.out.seg).mono ?_
      rintro e w2 ⟨rfl, rfl⟩
      have HI2 := Lib.hid (show Ints ((wr.alloc (.cells #[.pointer (some ⟨p.bs, 0, none⟩), .int .i64 0] 66)).alloc (.cells #[.int .i64 p.base] 3)) w.heap.size _ (ps.take k) from World.ownsRow.alloc (World.ownsRow.alloc HIN.out _) _)
      go_wp2_with (at_builtin; go_loud (refine wpList_append_own_at _ rfl _ _ 28 rfl w.heap.size 3 i0 (.int .i64 0) 1 8 Tryz.underlying28 HI.out.1 HI.out.2.1 HI.out.2.2.1 HI.out.2.2.2 rfl (by decide) _ _ _ rfl HI2.out ⟨wr.heap.size + 1, 0, none⟩ 1 1 [.int .i64 p.base] rfl rfl (by intro j u hu; rw [add0, cell_of_row _ _ _ _ _ _ HLA.out]; have : j < 1 := (List.getElem?_eq_some_iff.1 hu).1; rw [← hu]; simp) (by intro u hu; simp at hu; subst hu; rfl) (by unfold maxLen; rw [HLL.out]; omega) (by rw [HLL.out]; omega) (Nat.le_trans HW.out.size (by simp; omega)) ?_; intro v' w4 hown4 hgrow4 hnil4 hat4))
      have HO4 := Lib.hid hown4
      have HG4 := Lib.hid hgrow4
      go_roundw
      case rel =>
        refine ⟨k + 1, by go_num, by omega, ?_, ?_⟩
        · rw [HTK.out]
          have := HO4.out
          simpa [Ints] using this
        · have h1 := HB1.out
          have hz := HW.out.size
          exact (((HW.out.alloc hz _).alloc (Nat.le_trans hz (by simp)) _).grown HG4.out (Nat.le_trans hz (by simp; omega)) (fun j hj => (World.ownsRow.lt HIN.out j hj).1))
      case measure => simp [intOf]; omega
    · obtain rfl : k = ps.length := by omega
      have hlt' : ¬ (ps.length : Int) < (ps.length : Int) := by omega
      clear hlt
      rw [List.take_length] at HIN
      go_wp2
      go_ret
      exact ⟨_, rfl, HIN.out, HW.out⟩
end
end Go.Proofs.YtcioejacijkbcaaGreatDoor.Lg
/- seglog: where an offset stands, in a log of two parts; Batch. -/
namespace Go.Proofs.YtcioejacijkbcaaGreatDoor.Lg
open Go.RowKit Go.Maps Go.ChangeMaps Go.WideMaps Go.Proofs.YtcioejacijkbcaaGreatDoor.Vd Go.Proofs.YtcioejacijkbcaaGreatDoor.Rc Go.Proofs.YtcioejacijkbcaaGreatDoor.Rg Go.Proofs.YtcioejacijkbcaaGreatDoor.Sg
set_option linter.unusedVariables false
section
variable {w0 w w' : World} {bl bd bm room limit : Nat} {fs fs' : List Fil} {v : Value} {ps qs : List Prt}
set_option maxRecDepth 100000 in
theorem l_in1 (h : LogAt w0 w bl bd bm room limit fs v ps) (p : Prt) (hp : p ∈ ps) (d : Int) (hd : (p.base : Int) - 2 = d) (hd2 : -2 ≤ d ∧ d ≤ 1) :
    Calls Tryz.prog 77 #[.agg #[.pointer (some ⟨p.bs, 0, none⟩), .int .i64 0], .int .i64 2] w fun e w' => e = .returned (.int .i64 d) ∧ Below w.heap.size w w' := by
  have hb := (Below.refl w.heap.size w).alloc (Nat.le_refl _) (.cells #[.pointer (some ⟨p.bs, 0, none⟩), .int .i64 0] 66)
  have HP := Lib.hid ((h.part p hp).below hb)
  have hn := heap_alloc_new w (.cells #[.pointer (some ⟨p.bs, 0, none⟩), .int .i64 0] 66)
  obtain ⟨a0, a1⟩ := cells2 hn
  have HB := Lib.hid hb
  have hw : IntKind.i64.wrap d = d := IntWalk.i64_in _ (by omega)
  clear h hp hb hn
  go_enter Tryz.func77, Tryz.ntmps77
  go_wp2_with fail
  refine (base_yes HP.out.seg).mono ?_
  rintro e w1 ⟨rfl, rfl⟩
  go_wp2
  go_ret
  exact ⟨rfl, HB.out⟩
set_option maxRecDepth 100000 in
set_option maxHeartbeats 2000000 in
theorem l_bsearch (p q : Prt) (g cap : Nat) (h : LogAt w0 w bl bd bm room limit fs (.slice (some ⟨g, 0, none⟩) 2 cap) [p, q]) (hp : p.base = 0) (hq : q.base = 3) :
    Calls Tryz.prog 76 #[.slice (some ⟨g, 0, none⟩) 2 cap, .int .i64 2, .func (.func 77) #[] #[]] w fun e w' => e = .returned (.tuple #[.int .i64 1, .bool false]) ∧ Below w.heap.size w w' := by
  have H0 := Lib.hid h
  have H1 := Lib.hid (fun (W : World) (hW : Below w.heap.size w W) => l_in1 (h.more hW) p (by simp) (-2) (by rw [hp]; rfl) (by decide))
  have H2 := Lib.hid (fun (W : World) (hW : Below w.heap.size w W) => l_in1 (h.more hW) q (by simp) 1 (by rw [hq]; rfl) (by decide))
  have HC := Lib.hid (fun (W : World) (hW : Below w.heap.size w W) => And.intro ((h.more hW).row.cell 0 (by simp)).2 ((h.more hW).row.cell 1 (by simp)).2)
  clear h hp hq
  go_enter Tryz.func76, Tryz.ntmps76
  go_wp2_with fail
  go_loopw [9, 10, 11] (fun i j m wr => Below w.heap.size w wr ∧ ((i = .int .i64 0 ∧ j = .int .i64 2) ∨ (i = .int .i64 0 ∧ j = .int .i64 1) ∨ (i = .int .i64 1 ∧ j = .int .i64 1))) (fun i j _ _ => (intOf j - intOf i).toNat)
  case atStart => exact ⟨Below.refl _ _, .inl ⟨rfl, rfl⟩⟩
  case round =>
    obtain ⟨hW, hor⟩ := hrel
    have HW := Lib.hid hW
    obtain ⟨⟨g1, e1, a0, a1⟩, ⟨g2, e2, b0, b1⟩⟩ := HC.out wr hW
    cases e1
    cases e2
    simp only [List.getElem_cons_zero, List.getElem_cons_succ] at a0 a1 b0 b1
    clear hW
    rcases hor with ⟨rfl, rfl⟩ | ⟨rfl, rfl⟩ | ⟨rfl, rfl⟩
    · go_wp2_with fail
      refine (H2.out wr HW.out).mono ?_
      rintro e w1 ⟨rfl, hb⟩
      have HB := Lib.hid (HW.out.trans (hb.mono HW.out.size))
      clear hb a0 a1 b0 b1
      go_wp2_with fail
      go_roundw
      case rel => exact ⟨HB.out, .inr (.inl ⟨rfl, rfl⟩)⟩
      case measure => simp [intOf]
    · go_wp2_with fail
      refine (H1.out wr HW.out).mono ?_
      rintro e w1 ⟨rfl, hb⟩
      have HB := Lib.hid (HW.out.trans (hb.mono HW.out.size))
      clear hb a0 a1 b0 b1
      go_wp2_with fail
      go_roundw
      case rel => exact ⟨HB.out, .inr (.inr ⟨rfl, rfl⟩)⟩
      case measure => simp [intOf]
    · go_wp2_with fail
      refine (H2.out wr HW.out).mono ?_
      rintro e w1 ⟨rfl, hb⟩
      have HB := Lib.hid (HW.out.trans (hb.mono HW.out.size))
      clear hb a0 a1 b0 b1
      go_wp2_with fail
      go_ret2
      exact ⟨rfl, HB.out⟩
set_option maxRecDepth 100000 in
set_option maxHeartbeats 2000000 in
theorem l_search (p q : Prt) (h : LogAt w0 w bl bd bm room limit fs v [p, q]) (hp : p.base = 0) (hq : q.base = 3) :
    Calls Tryz.prog 41 #[.pointer (some ⟨bl, 0, none⟩), .int .i64 2] w fun e w' => e = .returned (.int .i64 0) ∧ Below w.heap.size w w' := by
  have H0 := Lib.hid h
  obtain ⟨g, cap, rfl⟩ := h.row.form (by simp)
  obtain ⟨c0, c1, c2⟩ := cells3 h.cell
  have HPB := Lib.hid hp
  have HQB := Lib.hid hq
  clear h hp hq
  go_enter Tryz.func41, Tryz.ntmps41
  go_wp2_with fail
  refine (l_bsearch p q g cap H0.out HPB.out HQB.out).mono ?_
  rintro e w1 ⟨rfl, hb⟩
  go_wp2
  go_ret
  exact ⟨rfl, hb⟩
end
end Go.Proofs.YtcioejacijkbcaaGreatDoor.Lg
/- seglog: Batch of a log of two parts. -/
namespace Go.Proofs.YtcioejacijkbcaaGreatDoor.Lg
open Go.RowKit Go.Maps Go.ChangeMaps Go.WideMaps Go.Proofs.YtcioejacijkbcaaGreatDoor.Vd Go.Proofs.YtcioejacijkbcaaGreatDoor.Rc Go.Proofs.YtcioejacijkbcaaGreatDoor.Rg Go.Proofs.YtcioejacijkbcaaGreatDoor.Sg
set_option linter.unusedVariables false
section
variable {w0 w w' : World} {bl bd bm room limit : Nat} {fs fs' : List Fil} {v : Value} {ps qs : List Prt}
theorem seg_batch {bs : Nat} {name : ByteArray} {base : Nat} {mv : Value} {a : Sg.Bat} (D : DiskAt w bd bm room fs) (h : SegIn w bs bd name base fs [a] mv) (o : Nat) (h0 : base ≤ o) (h1 : o < endOf base [a]) :
    Calls Tryz.prog 42 #[.pointer (some ⟨bs, 0, none⟩), .int .i64 o] w fun e w' => e = .returned (.tuple #[.string (Bt.str a.l), .int .i64 0]) ∧ Below w.heap.size w w' := by
  rcases h.file with hl | ⟨_, hl⟩
  · obtain ⟨l1, f, l2, rfl, hn, hb, _⟩ := look_some hl
    subst hn
    refine (batch_in [a] h.chain f (by simp) hb D h.seg o h0 h1).mono ?_
    rintro e w' ⟨hB, hb'⟩
    exact ⟨batch_one hB, hb'⟩
  · simp at hl
set_option maxRecDepth 100000 in
set_option maxHeartbeats 4000000 in
theorem l_batch (p q : Prt) (a b : Sg.Bat) (h : LogAt w0 w bl bd bm room limit fs v [p, q]) (hp : p.base = 0) (hq : q.base = 3) (hpx : p.xs = [a]) (hac : a.c = 3) (hqx : q.xs = [b]) (hbc : b.c = 1) :
    Calls Tryz.prog 12 #[.pointer (some ⟨bl, 0, none⟩), .int .i64 2] w fun e w' => e = .returned (.tuple #[.string (Bt.str a.l), .int .i64 0]) ∧ Below w.heap.size w w' := by
  have H0 := Lib.hid h
  have HG := Lib.hid (l_given h (by simp))
  have HE := Lib.hid (show Calls Tryz.prog 8 #[.pointer (some ⟨bl, 0, none⟩)] w fun e w' => e = .returned (.int .i64 4) ∧ Below w.heap.size w w' from by
    have := l_end h q [p] rfl (by simp)
    rw [hqx, hq, show endOf 3 [b] = 4 from by simp [endOf, hbc]] at this
    exact this)
  have HSB := Lib.hid (fun (W : World) (hW : Below w.heap.size w W) => (show Calls Tryz.prog 42 #[.pointer (some ⟨p.bs, 0, none⟩), .int .i64 2] W fun e w' => e = .returned (.tuple #[.string (Bt.str a.l), .int .i64 0]) ∧ Below W.heap.size W w' from by
    have hs := (h.more hW).part p (by simp)
    rw [hpx, hp] at hs
    exact seg_batch (h.more hW).disk hs 2 (by decide) (by simp [endOf, hac])))
  have HPP := Lib.hid (h.part p (by simp))
  have HPB := Lib.hid hp
  have HQB := Lib.hid hq
  obtain ⟨g, cap, rfl⟩ := h.row.form (by simp)
  obtain ⟨c0, c1, c2⟩ := cells3 h.cell
  obtain ⟨_, g1, e1, a0, a1⟩ := h.row.cell 0 (by simp)
  cases e1
  simp only [List.getElem_cons_zero, Nat.zero_mul, Nat.zero_add] at a0 a1
  have HA0 := Lib.hid a0
  have HBL0 := Lib.hid (And.intro (Vd.lt_of_heap h.cell) (World.ownsRow.lt h.row g rfl).2)
  clear h hp hq hpx hac hqx hbc
  go_enter Tryz.func12, Tryz.ntmps12
  go_wp2_with fail
  refine HG.out.mono ?_
  rintro e w1 ⟨rfl, rfl⟩
  go_wp2_with fail
  refine (base_yes HPP.out.seg).mono ?_
  rintro e w1 ⟨rfl, rfl⟩
  rw [HPB.out]
  go_wp2_with fail
  refine HE.out.mono ?_
  rintro e w5 ⟨rfl, hb5⟩
  have H5 := Lib.hid (H0.out.more hb5)
  have HB5 := Lib.hid hb5
  have HBL := Lib.hid (show bl < w5.heap.size ∧ g < w5.heap.size from ⟨Nat.lt_of_lt_of_le HBL0.out.1 hb5.size, Nat.lt_of_lt_of_le HBL0.out.2 hb5.size⟩)
  have d2 := (hb5.cell (p := ⟨bl, 2, none⟩) HBL0.out.1).trans c2
  have e0 := (hb5.cell (p := ⟨g, 0, none⟩) HBL0.out.2).trans HA0.out
  have HSB5 := Lib.hid (fun (W : World) (hW : Below w5.heap.size w5 W) => HSB.out W (HB5.out.trans (hW.mono HB5.out.size)))
  have HR5 := Lib.hid ((Below.refl w5.heap.size w5).drew)
  clear hb5 c0 c1 c2 a0 a1
  go_upto_region 5 with (fail)
  refine wp_region_seqo [0, 1, 2, 3, 4, 5, 6, 7, 8, 9, 10, 11, 12, 13, 14, 15] (S := (fun w' => Below w5.heap.size w5 w' ∧ w'.cell? ⟨bl, 2, none⟩ = some (.slice (some ⟨g, 0, none⟩) 2 cap) ∧ w'.cell? ⟨g, 0, none⟩ = some (.pointer (some ⟨p.bs, 0, none⟩)))) (by kernel_rfl) (by kernel_rfl) ⟨HR5.out, d2, e0⟩ ?_
  refine Seqo.light (v := ?_) rfl (by kernel_rfl) ?_ ?_
  rotate_left 1
  focus (intro w hSw; (try dsimp only at hSw); go_simp; try with_reducible rfl)
  try simp only [Act.put, List.setIfInBounds_toArray, List.set_cons_zero, List.set_cons_succ]
  refine Seqo.light (v := ?_) rfl (by kernel_rfl) ?_ ?_
  rotate_left 1
  focus (intro w hSw; (try dsimp only at hSw); go_simp; try with_reducible rfl)
  try simp only [Act.put, List.setIfInBounds_toArray, List.set_cons_zero, List.set_cons_succ]
  refine Seqo.light (v := ?_) rfl (by kernel_rfl) ?_ ?_
  rotate_left 1
  focus (intro w hSw; (try dsimp only at hSw); go_simp; try with_reducible rfl)
  try simp only [Act.put, List.setIfInBounds_toArray, List.set_cons_zero, List.set_cons_succ]
  refine Seqo.light (v := ?_) rfl (by kernel_rfl) ?_ ?_
  rotate_left 1
  focus (intro w hSw; (try dsimp only at hSw); go_simp; try with_reducible rfl)
  try simp only [Act.put, List.setIfInBounds_toArray, List.set_cons_zero, List.set_cons_succ]
  refine Seqo.light (v := ?_) rfl (by kernel_rfl) ?_ ?_
  rotate_left 1
  focus (intro w hSw; (try dsimp only at hSw); go_simp; try with_reducible rfl)
  try simp only [Act.put, List.setIfInBounds_toArray, List.set_cons_zero, List.set_cons_succ]
  refine Seqo.light (v := ?_) rfl (by kernel_rfl) ?_ ?_
  rotate_left 1
  focus (intro w hSw; (try dsimp only at hSw); go_simp; try with_reducible rfl)
  try simp only [Act.put, List.setIfInBounds_toArray, List.set_cons_zero, List.set_cons_succ]
  refine Seqo.call (.int .i64 0) rfl (by kernel_rfl) (by kernel_rfl) (fun w hSw => by (try dsimp only at hSw); go_simp; exact ⟨rfl, rfl⟩) ?_ ?_
  · intro w3 hSw
    refine (l_search p q (H5.out.more hSw.1) HPB.out HQB.out).mono ?_
    rintro e w4 ⟨rfl, hb4⟩
    exact ⟨rfl, hSw.1.trans (hb4.mono hSw.1.size), (hb4.cell (p := ⟨bl, 2, none⟩) (Nat.lt_of_lt_of_le HBL.out.1 hSw.1.size)).trans hSw.2.1, (hb4.cell (p := ⟨g, 0, none⟩) (Nat.lt_of_lt_of_le HBL.out.2 hSw.1.size)).trans hSw.2.2⟩
  try simp only [Act.put, List.setIfInBounds_toArray, List.set_cons_zero, List.set_cons_succ]
  refine Seqo.light (v := ?_) rfl (by kernel_rfl) ?_ ?_
  rotate_left 1
  focus (intro w hSw; (try dsimp only at hSw); go_simp; try with_reducible rfl)
  try simp only [Act.put, List.setIfInBounds_toArray, List.set_cons_zero, List.set_cons_succ]
  refine Seqo.light (v := ?_) rfl (by kernel_rfl) ?_ ?_
  rotate_left 1
  focus (intro w hSw; (try dsimp only at hSw); go_simp; try with_reducible rfl)
  try simp only [Act.put, List.setIfInBounds_toArray, List.set_cons_zero, List.set_cons_succ]
  refine Seqo.light (v := ?_) rfl (by kernel_rfl) ?_ ?_
  rotate_left 1
  focus (intro w hSw; (try dsimp only at hSw); go_simp; try with_reducible rfl)
  try simp only [Act.put, List.setIfInBounds_toArray, List.set_cons_zero, List.set_cons_succ]
  refine Seqo.light (v := ?_) rfl (by kernel_rfl) ?_ ?_
  rotate_left 1
  focus (intro w hSw; (try dsimp only at hSw); go_simp; try with_reducible rfl)
  try simp only [Act.put, List.setIfInBounds_toArray, List.set_cons_zero, List.set_cons_succ]
  refine Seqo.call (.tuple #[.string (Bt.str a.l), .int .i64 0]) rfl (by kernel_rfl) (by kernel_rfl) (fun w hSw => by (try dsimp only at hSw); go_simp; exact ⟨rfl, rfl⟩) ?_ ?_
  · intro w3 hSw
    refine (HSB5.out w3 hSw.1).mono ?_
    rintro e w4 ⟨rfl, hb4⟩
    exact ⟨rfl, hSw.1.trans (hb4.mono hSw.1.size), (hb4.cell (p := ⟨bl, 2, none⟩) (Nat.lt_of_lt_of_le HBL.out.1 hSw.1.size)).trans hSw.2.1, (hb4.cell (p := ⟨g, 0, none⟩) (Nat.lt_of_lt_of_le HBL.out.2 hSw.1.size)).trans hSw.2.2⟩
  try simp only [Act.put, List.setIfInBounds_toArray, List.set_cons_zero, List.set_cons_succ]
  refine Seqo.light (v := ?_) rfl (by kernel_rfl) ?_ ?_
  rotate_left 1
  focus (intro w hSw; (try dsimp only at hSw); go_simp; try with_reducible rfl)
  try simp only [Act.put, List.setIfInBounds_toArray, List.set_cons_zero, List.set_cons_succ]
  refine Seqo.light (v := ?_) rfl (by kernel_rfl) ?_ ?_
  rotate_left 1
  focus (intro w hSw; (try dsimp only at hSw); go_simp; try with_reducible rfl)
  try simp only [Act.put, List.setIfInBounds_toArray, List.set_cons_zero, List.set_cons_succ]
  refine Seqo.light (v := ?_) rfl (by kernel_rfl) ?_ ?_
  rotate_left 1
  focus (intro w hSw; (try dsimp only at hSw); go_simp; try with_reducible rfl)
  try simp only [Act.put, List.setIfInBounds_toArray, List.set_cons_zero, List.set_cons_succ]
  refine Seqo.light (v := ?_) rfl (by kernel_rfl) ?_ ?_
  rotate_left 1
  focus (intro w hSw; (try dsimp only at hSw); go_simp; try with_reducible rfl)
  try simp only [Act.put, List.setIfInBounds_toArray, List.set_cons_zero, List.set_cons_succ]
  refine Seqo.nil fun w6 hS6 => ?_
  have HB6 := Lib.hid (HB5.out.trans (hS6.1.mono HB5.out.size))
  clear hS6 d2 e0
  go_wp2
  go_ret2
  exact ⟨rfl, HB6.out⟩
end
end Go.Proofs.YtcioejacijkbcaaGreatDoor.Lg
