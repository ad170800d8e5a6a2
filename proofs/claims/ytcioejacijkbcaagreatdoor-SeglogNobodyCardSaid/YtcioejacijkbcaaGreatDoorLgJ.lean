/- seglog: Append. -/
import Derived.Test.YtcioejacijkbcaaGreatDoorLgD
import Derived.Deep.QuietTactic
import Derived.BigQuiet
import Derived.Laws.MakeOwn
import Derived.Lib.MinMax
import Derived.Deep.RegionLaw
set_option linter.unusedSimpArgs false
namespace Go.Proofs.YtcioejacijkbcaaGreatDoor.Lg
open Go.RowKit Go.Maps Go.ChangeMaps Go.WideMaps Go.Proofs.YtcioejacijkbcaaGreatDoor.Vd Go.Proofs.YtcioejacijkbcaaGreatDoor.Rc Go.Proofs.YtcioejacijkbcaaGreatDoor.Rg Go.Proofs.YtcioejacijkbcaaGreatDoor.Sg
set_option linter.unusedVariables false
section
variable {w0 w w' : World} {F0 : Nat → Prop} {bl bd bm room limit : Nat} {fs fs' : List Fil} {v : Value} {ps qs : List Prt}
set_option maxRecDepth 100000 in
set_option maxHeartbeats 4000000 in
theorem l_app_order {p : Prt} (h : LogAt w0 F0 w bl bd bm room limit fs v (qs ++ [p])) (x : Sg.Bat) (hx : x.Ok) (hne : x.b ≠ endOf p.base p.xs) (hn : (qs ++ [p]).length ≤ 900) :
    Calls Tryz.prog 9 #[.pointer (some ⟨bl, 0, none⟩), .string (Bt.str x.l)] w fun e w' => e = .returned (.int .i64 110) ∧ Below w.heap.size w w' := by
  have hc : ((x.b : Int) != (endOf p.base p.xs : Int)) = true := bne_iff_ne.2 (by omega)
  have hn : (qs ++ [p]).length ≤ 1000 := by omega
  clear hne
  have HN := Lib.hid hn
  have H0 := Lib.hid h
  have HX := Lib.hid hx
  have HG := Lib.hid (l_given h (by simp))
  have hsz : (Bt.str x.l).size = x.l.length := Bt.str_size _
  obtain ⟨hl1, hl2⟩ := hx.len
  have hq : ((x.l.length : Int) != ((Bt.str x.l).size : Int)) = false := by rw [hsz]; simp
  have HOF := Lib.hid (fun W => of_bat x hx [] (Bt.str x.l) (by rw [Bt.str_data, List.append_nil]) (by rw [hsz]; omega) W)
  clear h hx hn hsz hl1 hl2
  go_enter Tryz.func9, Tryz.ntmps9
  go_wp2_with fail
  refine HG.out.mono ?_
  rintro e w1 ⟨rfl, rfl⟩
  go_wp2_with fail
  refine (HOF.out _).mono ?_
  rintro e w1 ⟨⟨ap, cap, rfl, _⟩, hb⟩
  have HB := Lib.hid hb
  clear hb
  go_upto_region 6 with (fail)
  refine genw' ?_
  intro W hW
  have hcell : W.heap[w1.heap.size]? = some (.cells #[.int .i64 x.b, .int .i64 x.c, .int .i64 x.v, .int .i64 x.p, .int .i64 x.q, .slice ap x.rs.length cap] 59 (0, 0)) := by rw [hW]; exact heap_alloc_new w1 _
  have hBW : Below w.heap.size w W := by rw [hW]; exact HB.out.alloc HB.out.size _
  clear hW
  generalize w1.heap.size = bk at hcell ⊢
  have HBK := Lib.hid (Vd.lt_of_heap hcell)
  obtain ⟨z0, z1, z2, z3, z4, z5⟩ := Ba.cells6 hcell
  have HW := Lib.hid (H0.out.more hBW)
  have HBW := Lib.hid hBW
  clear hcell hBW z1 z2 z3 z4 z5
  have HR0 := Lib.hid ((Below.refl W.heap.size W).drew)
  refine wp_region_seqo [0, 1, 2, 3, 4] (S := (fun w' => Below W.heap.size W w' ∧ w'.cell? ⟨bk, 0, none⟩ = some (.int .i64 x.b))) (by kernel_rfl) (by kernel_rfl) ⟨HR0.out, z0⟩ ?_
  refine Seqo.light (v := ?_) rfl (by kernel_rfl) ?_ ?_
  rotate_left 1
  focus (intro w hSw; (try dsimp only at hSw); go_simp; try with_reducible rfl)
  try simp only [Act.put, List.setIfInBounds_toArray, List.set_cons_zero, List.set_cons_succ]
  refine Seqo.light (v := ?_) rfl (by kernel_rfl) ?_ ?_
  rotate_left 1
  focus (intro w hSw; (try dsimp only at hSw); go_simp; try with_reducible rfl)
  try simp only [Act.put, List.setIfInBounds_toArray, List.set_cons_zero, List.set_cons_succ]
  refine Seqo.light (v := ?_) rfl (by kernel_rfl) ?_ ?_
  rotate_left 1
  focus (intro w hSw; (try dsimp only at hSw); go_simp; try with_reducible rfl)
  try simp only [Act.put, List.setIfInBounds_toArray, List.set_cons_zero, List.set_cons_succ]
  refine Seqo.call (.int .i64 (endOf p.base p.xs)) rfl (by kernel_rfl) (by kernel_rfl) (fun w hSw => by (try dsimp only at hSw); go_simp; exact ⟨rfl, rfl⟩) ?_ ?_
  · intro w3 hSw
    refine (l_end (HW.out.more hSw.1) p qs rfl HN.out).mono ?_
    rintro e w4 ⟨rfl, hb4⟩
    exact ⟨rfl, hSw.1.trans (hb4.mono hSw.1.size), (hb4.cell (p := ⟨bk, 0, none⟩) (Nat.lt_of_lt_of_le HBK.out hSw.1.size)).trans hSw.2⟩
  try simp only [Act.put, List.setIfInBounds_toArray, List.set_cons_zero, List.set_cons_succ]
  refine Seqo.light (v := ?_) rfl (by kernel_rfl) ?_ ?_
  rotate_left 1
  focus (intro w hSw; (try dsimp only at hSw); go_simp; try with_reducible rfl)
  try simp only [Act.put, List.setIfInBounds_toArray, List.set_cons_zero, List.set_cons_succ]
  refine Seqo.nil fun w5 hS5 => ?_
  have H5 := Lib.hid (HW.out.more hS5.1)
  have HB5 := Lib.hid (HBW.out.trans (hS5.1.mono HBW.out.size))
  clear hS5 z0 HR0
  go_wp2
  go_ret
  exact ⟨rfl, HB5.out⟩
set_option maxRecDepth 100000 in
set_option maxHeartbeats 4000000 in
theorem l_app_in {p : Prt} (h : LogAt w0 F0 w bl bd bm room limit fs v (qs ++ [p])) (x : Sg.Bat) (hx : x.Ok) (heq : x.b = endOf p.base p.xs) (hn : (qs ++ [p]).length ≤ 900) (hlim : (text p.xs).length < limit) (hlm : limit ≤ 16777216)
    (hxl : p.xs.length ≤ 1000) (hlen : fs.length < 256) (hr : total fs + x.l.length ≤ room) :
    Calls Tryz.prog 9 #[.pointer (some ⟨bl, 0, none⟩), .string (Bt.str x.l)] w fun e w' => e = .returned (.int .i64 0) ∧ ∃ fs' mv', LogAt w0 F0 w' bl bd bm room limit fs' v (qs ++ [p.more x mv']) ∧ (∀ n, n ≠ nm p.base → look fs' n = look fs n) ∧ look fs' (nm p.base) = some (text (p.xs ++ [x])) ∧ total fs' = total fs + x.l.length ∧ fs'.length ≤ fs.length + 1 := by
  have HF := Lib.hid (And.intro heq (And.intro hlim (And.intro hlm (And.intro hxl (And.intro hlen hr)))))
  have hn : (qs ++ [p]).length ≤ 1000 := by omega
  have hfp := fun W a => field_part W a 0
  clear heq hlim hlm hxl hlen hr
  have HN := Lib.hid hn
  have H0 := Lib.hid h
  have HX := Lib.hid hx
  have HG := Lib.hid (l_given h (by simp))
  have hsz : (Bt.str x.l).size = x.l.length := Bt.str_size _
  obtain ⟨hl1, hl2⟩ := hx.len
  have hq : ((x.l.length : Int) != ((Bt.str x.l).size : Int)) = false := by rw [hsz]; simp
  have HOF := Lib.hid (fun W => of_bat x hx [] (Bt.str x.l) (by rw [Bt.str_data, List.append_nil]) (by rw [hsz]; omega) W)
  clear h hx hn hsz hl1 hl2
  go_enter Tryz.func9, Tryz.ntmps9
  go_wp2_with fail
  refine HG.out.mono ?_
  rintro e w1 ⟨rfl, rfl⟩
  go_wp2_with fail
  refine (HOF.out _).mono ?_
  rintro e w1 ⟨⟨ap, cap, rfl, _⟩, hb⟩
  have HB := Lib.hid hb
  clear hb
  go_upto_region 6 with (fail)
  refine genw' ?_
  intro W hW
  have hcell : W.heap[w1.heap.size]? = some (.cells #[.int .i64 x.b, .int .i64 x.c, .int .i64 x.v, .int .i64 x.p, .int .i64 x.q, .slice ap x.rs.length cap] 59 (0, 0)) := by rw [hW]; exact heap_alloc_new w1 _
  have hBW : Below w.heap.size w W := by rw [hW]; exact HB.out.alloc HB.out.size _
  clear hW
  generalize w1.heap.size = bk at hcell ⊢
  have HBK := Lib.hid (Vd.lt_of_heap hcell)
  obtain ⟨z0, z1, z2, z3, z4, z5⟩ := Ba.cells6 hcell
  have HW := Lib.hid (H0.out.more hBW)
  have HBW := Lib.hid hBW
  clear hcell hBW z1 z2 z3 z4 z5
  have HR0 := Lib.hid ((Below.refl W.heap.size W).drew)
  refine wp_region_seqo [0, 1, 2, 3, 4] (S := (fun w' => Below W.heap.size W w' ∧ w'.cell? ⟨bk, 0, none⟩ = some (.int .i64 x.b))) (by kernel_rfl) (by kernel_rfl) ⟨HR0.out, z0⟩ ?_
  refine Seqo.light (v := ?_) rfl (by kernel_rfl) ?_ ?_
  rotate_left 1
  focus (intro w hSw; (try dsimp only at hSw); go_simp; try with_reducible rfl)
  try simp only [Act.put, List.setIfInBounds_toArray, List.set_cons_zero, List.set_cons_succ]
  refine Seqo.light (v := ?_) rfl (by kernel_rfl) ?_ ?_
  rotate_left 1
  focus (intro w hSw; (try dsimp only at hSw); go_simp; try with_reducible rfl)
  try simp only [Act.put, List.setIfInBounds_toArray, List.set_cons_zero, List.set_cons_succ]
  refine Seqo.light (v := ?_) rfl (by kernel_rfl) ?_ ?_
  rotate_left 1
  focus (intro w hSw; (try dsimp only at hSw); go_simp; try with_reducible rfl)
  try simp only [Act.put, List.setIfInBounds_toArray, List.set_cons_zero, List.set_cons_succ]
  refine Seqo.call (.int .i64 x.b) rfl (by kernel_rfl) (by kernel_rfl) (fun w hSw => by (try dsimp only at hSw); go_simp; exact ⟨rfl, rfl⟩) ?_ ?_
  · intro w3 hSw
    refine (show Calls _ _ _ _ (fun e w' => e = .returned (.int .i64 x.b) ∧ Below w3.heap.size w3 w') from by rw [HF.out.1]; exact l_end (HW.out.more hSw.1) p qs rfl HN.out).mono ?_
    rintro e w4 ⟨rfl, hb4⟩
    exact ⟨rfl, hSw.1.trans (hb4.mono hSw.1.size), (hb4.cell (p := ⟨bk, 0, none⟩) (Nat.lt_of_lt_of_le HBK.out hSw.1.size)).trans hSw.2⟩
  try simp only [Act.put, List.setIfInBounds_toArray, List.set_cons_zero, List.set_cons_succ]
  refine Seqo.light (v := ?_) rfl (by kernel_rfl) ?_ ?_
  rotate_left 1
  focus (intro w hSw; (try dsimp only at hSw); go_simp; try with_reducible rfl)
  try simp only [Act.put, List.setIfInBounds_toArray, List.set_cons_zero, List.set_cons_succ]
  refine Seqo.nil fun w5 hS5 => ?_
  have H5 := Lib.hid (HW.out.more hS5.1)
  have HB5 := Lib.hid (HBW.out.trans (hS5.1.mono HBW.out.size))
  clear hS5 z0 HR0
  have HBL := Lib.hid (Vd.lt_of_heap H5.out.cell)
  obtain ⟨T, hTe⟩ : ∃ T, T = (text p.xs).length := ⟨_, rfl⟩
  have HTE := Lib.hid hTe
  clear hTe hq
  obtain ⟨c0, c1, c2⟩ := cells3 H5.out.cell
  have HR5 := Lib.hid ((Below.refl w5.heap.size w5).drew)
  go_upto_region 8 with (fail)
  refine wp_region_seqo [0, 1, 2, 3, 4, 5, 6, 7, 8] (S := (fun w' => Below w5.heap.size w5 w' ∧ w'.cell? ⟨bl, 1, none⟩ = some (.int .i64 limit))) (by kernel_rfl) (by kernel_rfl) ⟨HR5.out, c1⟩ ?_
  refine Seqo.light (v := ?_) rfl (by kernel_rfl) ?_ ?_
  rotate_left 1
  focus (intro w hSw; (try dsimp only at hSw); go_simp; try with_reducible rfl)
  try simp only [Act.put, List.setIfInBounds_toArray, List.set_cons_zero, List.set_cons_succ]
  refine Seqo.call (.agg #[.pointer (some ⟨p.bs, 0, none⟩), .int .i64 0]) rfl (by kernel_rfl) (by kernel_rfl) (fun w hSw => by (try dsimp only at hSw); go_simp; exact ⟨rfl, rfl⟩) ?_ ?_
  · intro w3 hSw
    refine (l_last (H5.out.more hSw.1) p qs rfl HN.out).mono ?_
    rintro e w4 ⟨rfl, hb4⟩
    exact ⟨rfl, hSw.1.trans (hb4.mono hSw.1.size), (hb4.cell (p := ⟨bl, 1, none⟩) (Nat.lt_of_lt_of_le HBL.out hSw.1.size)).trans hSw.2⟩
  try simp only [Act.put, List.setIfInBounds_toArray, List.set_cons_zero, List.set_cons_succ]
  refine Seqo.light (v := ?_) rfl (by kernel_rfl) ?_ ?_
  rotate_left 1
  focus (intro w hSw; (try dsimp only at hSw); go_simp; try with_reducible rfl)
  try simp only [Act.put, List.setIfInBounds_toArray, List.set_cons_zero, List.set_cons_succ]
  refine Seqo.call (.int .i64 T) rfl (by kernel_rfl) (by kernel_rfl) (fun w hSw => by (try dsimp only at hSw); go_simp; exact ⟨rfl, rfl⟩) ?_ ?_
  · intro w3 hSw
    refine (show Calls _ _ _ _ (fun e w' => e = .returned (.int .i64 T) ∧ w3 = w') from by rw [HTE.out]; exact size_yes ((H5.out.more hSw.1).part p (by simp)).seg).mono ?_
    rintro e w4 ⟨rfl, rfl⟩
    exact ⟨rfl, hSw⟩
  try simp only [Act.put, List.setIfInBounds_toArray, List.set_cons_zero, List.set_cons_succ]
  refine Seqo.light (v := ?_) rfl (by kernel_rfl) ?_ ?_
  rotate_left 1
  focus (intro w hSw; (try dsimp only at hSw); go_simp; try with_reducible rfl)
  try simp only [Act.put, List.setIfInBounds_toArray, List.set_cons_zero, List.set_cons_succ]
  refine Seqo.light (v := ?_) rfl (by kernel_rfl) ?_ ?_
  rotate_left 1
  focus (intro w hSw; (try dsimp only at hSw); go_simp; try with_reducible rfl)
  try simp only [Act.put, List.setIfInBounds_toArray, List.set_cons_zero, List.set_cons_succ]
  refine Seqo.light (v := ?_) rfl (by kernel_rfl) ?_ ?_
  rotate_left 1
  focus (intro w hSw; (try dsimp only at hSw); go_simp; try with_reducible rfl)
  try simp only [Act.put, List.setIfInBounds_toArray, List.set_cons_zero, List.set_cons_succ]
  refine Seqo.light (v := ?_) rfl (by kernel_rfl) ?_ ?_
  rotate_left 1
  focus (intro w hSw; (try dsimp only at hSw); go_simp; try with_reducible rfl)
  try simp only [Act.put, List.setIfInBounds_toArray, List.set_cons_zero, List.set_cons_succ]
  refine Seqo.light (v := ?_) rfl (by kernel_rfl) ?_ ?_
  rotate_left 1
  focus (intro w hSw; (try dsimp only at hSw); go_simp; try with_reducible rfl)
  try simp only [Act.put, List.setIfInBounds_toArray, List.set_cons_zero, List.set_cons_succ]
  refine Seqo.nil fun w6 hS6 => ?_
  have H6 := Lib.hid (H5.out.more hS6.1)
  have HB6 := Lib.hid (HB5.out.trans (hS6.1.mono HB5.out.size))
  clear hS6 c0 c1 c2 HR5
  have hT : ¬ limit ≤ T := by have := HF.out.2.1; have := HTE.out; omega
  go_wp2_with fail
  refine (l_last H6.out p qs rfl HN.out).mono ?_
  rintro e w7 ⟨rfl, hb7⟩
  have H7 := Lib.hid (H6.out.more hb7)
  clear hb7
  go_wp2_with fail
  refine (seg_in_append H7.out.disk (H7.out.part p (by simp)) (H7.out.dsk _ (mem_own_bs (v := v) (bl := bl) (p := p) (by simp))) (fun k hk => H7.out.dsk _ (mem_own_mv (v := v) (bl := bl) (p := p) (by simp) hk)) x HX.out HF.out.1 (by have := HF.out.2.2.2.1; omega) HF.out.2.2.2.2.1 HF.out.2.2.2.2.2 (by have := HF.out.2.1; have := HF.out.2.2.1; omega)).mono ?_
  rintro e w8 ⟨rfl, fs', mv', hG⟩
  have HGR := Lib.hid hG
  clear hG
  go_wp2
  go_ret
  refine ⟨rfl, fs', mv', H7.out.grew HGR.out, HGR.out.other, ?_, HGR.out.tot, HGR.out.few⟩
  rcases HGR.out.seg.file with h1 | ⟨_, h1⟩
  · exact h1
  · simp at h1
set_option maxRecDepth 100000 in
set_option maxHeartbeats 4000000 in
theorem l_app_roll {p : Prt} (h : LogAt w0 F0 w bl bd bm room limit fs v (qs ++ [p])) (x : Sg.Bat) (hx : x.Ok) (heq : x.b = endOf p.base p.xs) (hn : (qs ++ [p]).length ≤ 900) (hlim : limit ≤ (text p.xs).length) (hlm : limit ≤ 16777216)
    (u : Nat) (hu : endOf p.base p.xs = u) (hu3 : u < 500) (hnew : u ∉ (qs ++ [p]).map Prt.base) (hno : look fs (nm u) = none) (hfr : look fs fresh = none) (l : List UInt8) (hl : look fs (nm p.base) = some l)
    (hlen : fs.length < 255) (hr : total fs + 6 * ((qs ++ [p]).length + 1) + x.l.length ≤ room) :
    Calls Tryz.prog 9 #[.pointer (some ⟨bl, 0, none⟩), .string (Bt.str x.l)] w fun e w' => e = .returned (.int .i64 0) ∧ ∃ fs' v' b mv', LogAt w0 F0 w' bl bd bm room limit fs' v' (qs ++ [p] ++ [(Prt.mk b u [] (.slice none 0 0)).more x mv']) ∧ look fs' fresh = none ∧ look fs' (nm u) = some (text [x]) ∧ (∀ n, n ≠ man → n ≠ fresh → n ≠ nm u → look fs' n = look fs n) ∧ total fs' ≤ total fs + 6 * ((qs ++ [p]).length + 1) + x.l.length ∧ fs'.length ≤ fs.length + 2 := by
  have HRO := Lib.hid (fun (W : World) (H : LogAt w0 F0 W bl bd bm room limit fs v (qs ++ [p])) => l_rolls H p rfl u hu hu3 hnew hno hfr l hl (by omega) (by omega) hn)
  have HF := Lib.hid (And.intro heq (And.intro hlim (And.intro hlm (And.intro hu (And.intro hu3 (And.intro hfr (And.intro hlen hr)))))))
  have hnoo := Lib.hid (And.intro hno hn)
  have hn : (qs ++ [p]).length ≤ 1000 := by omega
  have hfp := fun W a => field_part W a 0
  clear heq hlim hlm hlen hr hnew hno hfr hl hu hu3
  have HN := Lib.hid hn
  have H0 := Lib.hid h
  have HX := Lib.hid hx
  have HG := Lib.hid (l_given h (by simp))
  have hsz : (Bt.str x.l).size = x.l.length := Bt.str_size _
  obtain ⟨hl1, hl2⟩ := hx.len
  have hq : ((x.l.length : Int) != ((Bt.str x.l).size : Int)) = false := by rw [hsz]; simp
  have HOF := Lib.hid (fun W => of_bat x hx [] (Bt.str x.l) (by rw [Bt.str_data, List.append_nil]) (by rw [hsz]; omega) W)
  clear h hx hn hsz hl1 hl2
  go_enter Tryz.func9, Tryz.ntmps9
  go_wp2_with fail
  refine HG.out.mono ?_
  rintro e w1 ⟨rfl, rfl⟩
  go_wp2_with fail
  refine (HOF.out _).mono ?_
  rintro e w1 ⟨⟨ap, cap, rfl, _⟩, hb⟩
  have HB := Lib.hid hb
  clear hb
  go_upto_region 6 with (fail)
  refine genw' ?_
  intro W hW
  have hcell : W.heap[w1.heap.size]? = some (.cells #[.int .i64 x.b, .int .i64 x.c, .int .i64 x.v, .int .i64 x.p, .int .i64 x.q, .slice ap x.rs.length cap] 59 (0, 0)) := by rw [hW]; exact heap_alloc_new w1 _
  have hBW : Below w.heap.size w W := by rw [hW]; exact HB.out.alloc HB.out.size _
  clear hW
  generalize w1.heap.size = bk at hcell ⊢
  have HBK := Lib.hid (Vd.lt_of_heap hcell)
  obtain ⟨z0, z1, z2, z3, z4, z5⟩ := Ba.cells6 hcell
  have HW := Lib.hid (H0.out.more hBW)
  have HBW := Lib.hid hBW
  clear hcell hBW z1 z2 z3 z4 z5
  have HR0 := Lib.hid ((Below.refl W.heap.size W).drew)
  refine wp_region_seqo [0, 1, 2, 3, 4] (S := (fun w' => Below W.heap.size W w' ∧ w'.cell? ⟨bk, 0, none⟩ = some (.int .i64 x.b))) (by kernel_rfl) (by kernel_rfl) ⟨HR0.out, z0⟩ ?_
  refine Seqo.light (v := ?_) rfl (by kernel_rfl) ?_ ?_
  rotate_left 1
  focus (intro w hSw; (try dsimp only at hSw); go_simp; try with_reducible rfl)
  try simp only [Act.put, List.setIfInBounds_toArray, List.set_cons_zero, List.set_cons_succ]
  refine Seqo.light (v := ?_) rfl (by kernel_rfl) ?_ ?_
  rotate_left 1
  focus (intro w hSw; (try dsimp only at hSw); go_simp; try with_reducible rfl)
  try simp only [Act.put, List.setIfInBounds_toArray, List.set_cons_zero, List.set_cons_succ]
  refine Seqo.light (v := ?_) rfl (by kernel_rfl) ?_ ?_
  rotate_left 1
  focus (intro w hSw; (try dsimp only at hSw); go_simp; try with_reducible rfl)
  try simp only [Act.put, List.setIfInBounds_toArray, List.set_cons_zero, List.set_cons_succ]
  refine Seqo.call (.int .i64 x.b) rfl (by kernel_rfl) (by kernel_rfl) (fun w hSw => by (try dsimp only at hSw); go_simp; exact ⟨rfl, rfl⟩) ?_ ?_
  · intro w3 hSw
    refine (show Calls _ _ _ _ (fun e w' => e = .returned (.int .i64 x.b) ∧ Below w3.heap.size w3 w') from by rw [HF.out.1]; exact l_end (HW.out.more hSw.1) p qs rfl HN.out).mono ?_
    rintro e w4 ⟨rfl, hb4⟩
    exact ⟨rfl, hSw.1.trans (hb4.mono hSw.1.size), (hb4.cell (p := ⟨bk, 0, none⟩) (Nat.lt_of_lt_of_le HBK.out hSw.1.size)).trans hSw.2⟩
  try simp only [Act.put, List.setIfInBounds_toArray, List.set_cons_zero, List.set_cons_succ]
  refine Seqo.light (v := ?_) rfl (by kernel_rfl) ?_ ?_
  rotate_left 1
  focus (intro w hSw; (try dsimp only at hSw); go_simp; try with_reducible rfl)
  try simp only [Act.put, List.setIfInBounds_toArray, List.set_cons_zero, List.set_cons_succ]
  refine Seqo.nil fun w5 hS5 => ?_
  have H5 := Lib.hid (HW.out.more hS5.1)
  have HB5 := Lib.hid (HBW.out.trans (hS5.1.mono HBW.out.size))
  clear hS5 z0 HR0
  have HBL := Lib.hid (Vd.lt_of_heap H5.out.cell)
  obtain ⟨T, hTe⟩ : ∃ T, T = (text p.xs).length := ⟨_, rfl⟩
  have HTE := Lib.hid hTe
  clear hTe hq
  obtain ⟨c0, c1, c2⟩ := cells3 H5.out.cell
  have HR5 := Lib.hid ((Below.refl w5.heap.size w5).drew)
  go_upto_region 8 with (fail)
  refine wp_region_seqo [0, 1, 2, 3, 4, 5, 6, 7, 8] (S := (fun w' => Below w5.heap.size w5 w' ∧ w'.cell? ⟨bl, 1, none⟩ = some (.int .i64 limit))) (by kernel_rfl) (by kernel_rfl) ⟨HR5.out, c1⟩ ?_
  refine Seqo.light (v := ?_) rfl (by kernel_rfl) ?_ ?_
  rotate_left 1
  focus (intro w hSw; (try dsimp only at hSw); go_simp; try with_reducible rfl)
  try simp only [Act.put, List.setIfInBounds_toArray, List.set_cons_zero, List.set_cons_succ]
  refine Seqo.call (.agg #[.pointer (some ⟨p.bs, 0, none⟩), .int .i64 0]) rfl (by kernel_rfl) (by kernel_rfl) (fun w hSw => by (try dsimp only at hSw); go_simp; exact ⟨rfl, rfl⟩) ?_ ?_
  · intro w3 hSw
    refine (l_last (H5.out.more hSw.1) p qs rfl HN.out).mono ?_
    rintro e w4 ⟨rfl, hb4⟩
    exact ⟨rfl, hSw.1.trans (hb4.mono hSw.1.size), (hb4.cell (p := ⟨bl, 1, none⟩) (Nat.lt_of_lt_of_le HBL.out hSw.1.size)).trans hSw.2⟩
  try simp only [Act.put, List.setIfInBounds_toArray, List.set_cons_zero, List.set_cons_succ]
  refine Seqo.light (v := ?_) rfl (by kernel_rfl) ?_ ?_
  rotate_left 1
  focus (intro w hSw; (try dsimp only at hSw); go_simp; try with_reducible rfl)
  try simp only [Act.put, List.setIfInBounds_toArray, List.set_cons_zero, List.set_cons_succ]
  refine Seqo.call (.int .i64 T) rfl (by kernel_rfl) (by kernel_rfl) (fun w hSw => by (try dsimp only at hSw); go_simp; exact ⟨rfl, rfl⟩) ?_ ?_
  · intro w3 hSw
    refine (show Calls _ _ _ _ (fun e w' => e = .returned (.int .i64 T) ∧ w3 = w') from by rw [HTE.out]; exact size_yes ((H5.out.more hSw.1).part p (by simp)).seg).mono ?_
    rintro e w4 ⟨rfl, rfl⟩
    exact ⟨rfl, hSw⟩
  try simp only [Act.put, List.setIfInBounds_toArray, List.set_cons_zero, List.set_cons_succ]
  refine Seqo.light (v := ?_) rfl (by kernel_rfl) ?_ ?_
  rotate_left 1
  focus (intro w hSw; (try dsimp only at hSw); go_simp; try with_reducible rfl)
  try simp only [Act.put, List.setIfInBounds_toArray, List.set_cons_zero, List.set_cons_succ]
  refine Seqo.light (v := ?_) rfl (by kernel_rfl) ?_ ?_
  rotate_left 1
  focus (intro w hSw; (try dsimp only at hSw); go_simp; try with_reducible rfl)
  try simp only [Act.put, List.setIfInBounds_toArray, List.set_cons_zero, List.set_cons_succ]
  refine Seqo.light (v := ?_) rfl (by kernel_rfl) ?_ ?_
  rotate_left 1
  focus (intro w hSw; (try dsimp only at hSw); go_simp; try with_reducible rfl)
  try simp only [Act.put, List.setIfInBounds_toArray, List.set_cons_zero, List.set_cons_succ]
  refine Seqo.light (v := ?_) rfl (by kernel_rfl) ?_ ?_
  rotate_left 1
  focus (intro w hSw; (try dsimp only at hSw); go_simp; try with_reducible rfl)
  try simp only [Act.put, List.setIfInBounds_toArray, List.set_cons_zero, List.set_cons_succ]
  refine Seqo.light (v := ?_) rfl (by kernel_rfl) ?_ ?_
  rotate_left 1
  focus (intro w hSw; (try dsimp only at hSw); go_simp; try with_reducible rfl)
  try simp only [Act.put, List.setIfInBounds_toArray, List.set_cons_zero, List.set_cons_succ]
  refine Seqo.nil fun w6 hS6 => ?_
  have H6 := Lib.hid (H5.out.more hS6.1)
  have HB6 := Lib.hid (HB5.out.trans (hS6.1.mono HB5.out.size))
  clear hS6 c0 c1 c2 HR5
  have hT : limit ≤ T := by have := HF.out.2.1; have := HTE.out; omega
  go_wp2_with fail
  refine (HRO.out _ H6.out).mono ?_
  rintro e w7 ⟨rfl, fs7, v7, b, h7, k1, k2, k3, k4, k5⟩
  have H7 := Lib.hid h7
  have HK := Lib.hid (And.intro k3 (And.intro k4 k5))
  have HK2 := Lib.hid k2
  clear h7 k1 k2 k3 k4 k5
  go_wp2_with fail
  refine (l_last H7.out _ (qs ++ [p]) rfl (by have := HN.out; have := hnoo.out.2; simp only [List.length_append, List.length_singleton] at *; omega)).mono ?_
  rintro e w8 ⟨rfl, hb8⟩
  have H8 := Lib.hid (H7.out.more hb8)
  clear hb8
  go_wp2_with fail
  refine (seg_in_append H8.out.disk (H8.out.part (Prt.mk b u [] (.slice none 0 0)) (by simp)) (H8.out.dsk _ (mem_own_bs (v := v7) (bl := bl) (p := Prt.mk b u [] (.slice none 0 0)) (by simp))) (fun k hk => H8.out.dsk _ (mem_own_mv (v := v7) (bl := bl) (p := Prt.mk b u [] (.slice none 0 0)) (by simp) hk)) x HX.out (by rw [HF.out.1, HF.out.2.2.2.1]; simp [endOf]) (by simp) (by have := HK.out.2.2; have := HF.out.2.2.2.2.2.2.1; omega) (by have := HK.out.2.1; have := HF.out.2.2.2.2.2.2.2; omega) (by simp [text])).mono ?_
  rintro e w9 ⟨rfl, fs', mv', hG⟩
  have HGR := Lib.hid hG
  clear hG
  go_wp2
  go_ret
  refine ⟨rfl, fs', v7, b, mv', H8.out.grew HGR.out, ?_, ?_, ?_, ?_, ?_⟩
  · exact (HGR.out.other _ (nm_ne u).2.symm).trans HK2.out
  · rcases HGR.out.seg.file with h1 | ⟨_, h1⟩
    · exact h1
    · simp at h1
  · intro n h1 h2 h3
    exact (HGR.out.other n h3).trans (HK.out.1 n h1 h2)
  · have h1 := HGR.out.tot; have h2 := HK.out.2.1; omega
  · have h1 := HGR.out.few; have h2 := HK.out.2.2; omega
end
end Go.Proofs.YtcioejacijkbcaaGreatDoor.Lg
/- seglog: Segments; Batch of a log of two parts. -/
namespace Go.Proofs.YtcioejacijkbcaaGreatDoor.Lg
open Go.RowKit Go.Maps Go.ChangeMaps Go.WideMaps Go.Proofs.YtcioejacijkbcaaGreatDoor.Vd Go.Proofs.YtcioejacijkbcaaGreatDoor.Rc Go.Proofs.YtcioejacijkbcaaGreatDoor.Rg Go.Proofs.YtcioejacijkbcaaGreatDoor.Sg
set_option linter.unusedVariables false
theorem infoI : ((Tryz.prog.info? 3).map fun i => (i.zero, i.size, i.bytes)) = some (some (.int .i64 0), 1, 8) := by kernel_rfl
def Ints (w : World) (B : Nat) (v : Value) (ps : List Prt) : Prop := w.ownsRow B 3 1 v ps.length (ps.map fun p : Prt => Value.int .i64 p.base)
section
variable {w0 w w' : World} {F0 : Nat → Prop} {bl bd bm room limit : Nat} {fs fs' : List Fil} {v : Value} {ps qs : List Prt}
set_option maxRecDepth 100000 in
set_option maxHeartbeats 2000000 in
theorem l_segments (h : LogAt w0 F0 w bl bd bm room limit fs v ps) (hn0 : 0 < ps.length) (hn : ps.length ≤ 900) :
    Calls Tryz.prog 10 #[.pointer (some ⟨bl, 0, none⟩)] w fun e w' => ∃ v', e = .returned v' ∧ Ints w' w.heap.size v' ps ∧ Below w.heap.size w w' := by
  obtain ⟨g, cap, rfl⟩ := h.row.form hn0
  have HG := Lib.hid (l_given h hn0)
  have H0 := Lib.hid h
  have HN := Lib.hid hn
  obtain ⟨c0, c1, c2⟩ := cells3 h.cell
  obtain ⟨i0, hi, hz0, hz1, hz2⟩ := Bt.info_parts infoI
  have HI := Lib.hid (And.intro hi (And.intro hz0 (And.intro hz1 hz2)))
  clear h hn hi hz0 hz1 hz2
  go_enter Tryz.func10, Tryz.ntmps10
  go_wp2_with fail
  refine HG.out.mono ?_
  rintro e w1 ⟨rfl, rfl⟩
  go_wp2_with fail
  clear c0 c1 c2
  go_loopw [3, 14] (fun o i wr => ∃ k : Nat, i = .int .i64 k ∧ k ≤ ps.length ∧ Ints wr w.heap.size o (ps.take k) ∧ Below w.heap.size w wr) (fun _ i _ => ps.length - (intOf i).toNat)
  case atStart => exact ⟨0, rfl, by omega, World.ownsRow_nil _ _ _ _, Below.refl _ _⟩
  case round =>
    obtain ⟨k, rfl, hk, hI, hW⟩ := hrel
    have HW := Lib.hid hW
    have HIN := Lib.hid hI
    clear hW hI
    by_cases hlt : k < ps.length
    · have hlt' : (k : Int) < (ps.length : Int) := by omega
      have hk0 : (0 : Int) ≤ (k : Int) := by omega
      have hk9 : (k : Int) ≤ 1000 := by have := HN.out; omega
      obtain ⟨p, hpk⟩ : ∃ p, p = ps[k] := ⟨_, rfl⟩
      have HP := Lib.hid (H0.out.part p (by rw [hpk]; exact List.getElem_mem _))
      have hrr : Parts wr (.slice (some ⟨g, 0, none⟩) ps.length cap) ps := Vd.ownsRow_at H0.out.row fun j hj => HW.out.block j (World.ownsRow.lt H0.out.row j hj).2
      obtain ⟨_, g', hg', c0, c1⟩ := hrr.cell k hlt
      cases hg'
      rw [← hpk] at c0
      have htk : ps.take (k + 1) = ps.take k ++ [p] := by rw [List.take_succ_eq_append_getElem hlt, hpk]
      have HTK := Lib.hid htk
      have HAL := Lib.hid (heap_alloc_new wr (.cells #[.pointer (some ⟨p.bs, 0, none⟩), .int .i64 0] 66))
      obtain ⟨a0, a1⟩ := cells2 HAL.out
      have hb1 := (Below.refl wr.heap.size wr).alloc (Nat.le_refl _) (.cells #[.pointer (some ⟨p.bs, 0, none⟩), .int .i64 0] 66)
      have HP1 := Lib.hid (HP.out.below (HW.out.trans (hb1.mono HW.out.size)))
      have HB1 := Lib.hid hb1
      have hll : (ps.take k).length = k := List.length_take_of_le hk
      have HLL := Lib.hid hll
      have hla := heap_alloc_new (wr.alloc (.cells #[.pointer (some ⟨p.bs, 0, none⟩), .int .i64 0] 66)) (.cells #[.int .i64 p.base] 3)
      rw [show (wr.alloc (.cells #[.pointer (some ⟨p.bs, 0, none⟩), .int .i64 0] 66)).heap.size = wr.heap.size + 1 from by show (wr.heap.push _).size = _; simp] at hla
      have HLA := Lib.hid hla
      clear hpk hrr htk hb1 hll hla
      go_wp2_with fail
      refine (base_yes HP1.out.seg).mono ?_
      rintro e w2 ⟨rfl, rfl⟩
      have HI2 := Lib.hid (show Ints ((wr.alloc (.cells #[.pointer (some ⟨p.bs, 0, none⟩), .int .i64 0] 66)).alloc (.cells #[.int .i64 p.base] 3)) w.heap.size _ (ps.take k) from World.ownsRow.alloc (World.ownsRow.alloc HIN.out _) _)
      go_wp2_with (at_builtin; go_loud (refine wpList_append_own_at _ rfl _ _ 28 rfl w.heap.size 3 i0 (.int .i64 0) 1 8 Tryz.underlying28 HI.out.1 HI.out.2.1 HI.out.2.2.1 HI.out.2.2.2 rfl (by decide) _ _ _ rfl HI2.out ⟨wr.heap.size + 1, 0, none⟩ 1 1 [.int .i64 p.base] rfl rfl (by intro j u hu; rw [add0, cell_of_row _ _ _ _ _ _ HLA.out]; have : j < 1 := (List.getElem?_eq_some_iff.1 hu).1; rw [← hu]; simp) (by intro u hu; simp at hu; subst hu; rfl) (by unfold maxLen; rw [HLL.out]; omega) (by rw [HLL.out]; omega) (Nat.le_trans HW.out.size (by simp; omega)) ?_; intro v' w4 hown4 hgrow4 hnil4 hat4))
      have HO4 := Lib.hid hown4
      have HG4 := Lib.hid hgrow4
      go_roundw
      case rel =>
        refine ⟨k + 1, by go_num, by omega, ?_, ?_⟩
        · rw [HTK.out]
          have := HO4.out
          simpa [Ints] using this
        · have h1 := HB1.out
          have hz := HW.out.size
          exact (((HW.out.alloc hz _).alloc (Nat.le_trans hz (by simp)) _).grown HG4.out (Nat.le_trans hz (by simp; omega)) (fun j hj => (World.ownsRow.lt HIN.out j hj).1))
      case measure => simp [intOf]; omega
    · obtain rfl : k = ps.length := by omega
      have hlt' : ¬ (ps.length : Int) < (ps.length : Int) := by omega
      clear hlt
      rw [List.take_length] at HIN
      go_wp2
      go_ret
      exact ⟨_, rfl, HIN.out, HW.out⟩
end
end Go.Proofs.YtcioejacijkbcaaGreatDoor.Lg
/- seglog: where an offset stands, in a log of two parts; Batch. -/
namespace Go.Proofs.YtcioejacijkbcaaGreatDoor.Lg
open Go.RowKit Go.Maps Go.ChangeMaps Go.WideMaps Go.Proofs.YtcioejacijkbcaaGreatDoor.Vd Go.Proofs.YtcioejacijkbcaaGreatDoor.Rc Go.Proofs.YtcioejacijkbcaaGreatDoor.Rg Go.Proofs.YtcioejacijkbcaaGreatDoor.Sg
set_option linter.unusedVariables false
section
variable {w0 w w' : World} {F0 : Nat → Prop} {bl bd bm room limit : Nat} {fs fs' : List Fil} {v : Value} {ps qs : List Prt}
set_option maxRecDepth 100000 in
theorem l_in1 (h : LogAt w0 F0 w bl bd bm room limit fs v ps) (p : Prt) (hp : p ∈ ps) (d : Int) (hd : (p.base : Int) - 2 = d) (hd2 : -2 ≤ d ∧ d ≤ 1) :
    Calls Tryz.prog 77 #[.agg #[.pointer (some ⟨p.bs, 0, none⟩), .int .i64 0], .int .i64 2] w fun e w' => e = .returned (.int .i64 d) ∧ Below w.heap.size w w' := by
  have hb := (Below.refl w.heap.size w).alloc (Nat.le_refl _) (.cells #[.pointer (some ⟨p.bs, 0, none⟩), .int .i64 0] 66)
  have HP := Lib.hid ((h.part p hp).below hb)
  have hn := heap_alloc_new w (.cells #[.pointer (some ⟨p.bs, 0, none⟩), .int .i64 0] 66)
  obtain ⟨a0, a1⟩ := cells2 hn
  have HB := Lib.hid hb
  have hw : IntKind.i64.wrap d = d := IntWalk.i64_in _ (by omega)
  clear h hp hb hn
  go_enter Tryz.func77, Tryz.ntmps77
  go_wp2_with fail
  refine (base_yes HP.out.seg).mono ?_
  rintro e w1 ⟨rfl, rfl⟩
  go_wp2
  go_ret
  exact ⟨rfl, HB.out⟩
set_option maxRecDepth 100000 in
set_option maxHeartbeats 2000000 in
theorem l_bsearch (p q : Prt) (g cap : Nat) (h : LogAt w0 F0 w bl bd bm room limit fs (.slice (some ⟨g, 0, none⟩) 2 cap) [p, q]) (hp : p.base = 0) (hq : q.base = 3) :
    Calls Tryz.prog 76 #[.slice (some ⟨g, 0, none⟩) 2 cap, .int .i64 2, .func (.func 77) #[] #[]] w fun e w' => e = .returned (.tuple #[.int .i64 1, .bool false]) ∧ Below w.heap.size w w' := by
  have H0 := Lib.hid h
  have H1 := Lib.hid (fun (W : World) (hW : Below w.heap.size w W) => l_in1 (h.more hW) p (by simp) (-2) (by rw [hp]; rfl) (by decide))
  have H2 := Lib.hid (fun (W : World) (hW : Below w.heap.size w W) => l_in1 (h.more hW) q (by simp) 1 (by rw [hq]; rfl) (by decide))
  have HC := Lib.hid (fun (W : World) (hW : Below w.heap.size w W) => And.intro ((h.more hW).row.cell 0 (by simp)).2 ((h.more hW).row.cell 1 (by simp)).2)
  clear h hp hq
  go_enter Tryz.func76, Tryz.ntmps76
  go_wp2_with fail
  go_loopw [9, 10, 11] (fun i j m wr => Below w.heap.size w wr ∧ ((i = .int .i64 0 ∧ j = .int .i64 2) ∨ (i = .int .i64 0 ∧ j = .int .i64 1) ∨ (i = .int .i64 1 ∧ j = .int .i64 1))) (fun i j _ _ => (intOf j - intOf i).toNat)
  case atStart => exact ⟨Below.refl _ _, .inl ⟨rfl, rfl⟩⟩
  case round =>
    obtain ⟨hW, hor⟩ := hrel
    have HW := Lib.hid hW
    obtain ⟨⟨g1, e1, a0, a1⟩, ⟨g2, e2, b0, b1⟩⟩ := HC.out wr hW
    cases e1
    cases e2
    simp only [List.getElem_cons_zero, List.getElem_cons_succ] at a0 a1 b0 b1
    clear hW
    rcases hor with ⟨rfl, rfl⟩ | ⟨rfl, rfl⟩ | ⟨rfl, rfl⟩
    · go_wp2_with fail
      refine (H2.out wr HW.out).mono ?_
      rintro e w1 ⟨rfl, hb⟩
      have HB := Lib.hid (HW.out.trans (hb.mono HW.out.size))
      clear hb a0 a1 b0 b1
      go_wp2_with fail
      go_roundw
      case rel => exact ⟨HB.out, .inr (.inl ⟨rfl, rfl⟩)⟩
      case measure => simp [intOf]
    · go_wp2_with fail
      refine (H1.out wr HW.out).mono ?_
      rintro e w1 ⟨rfl, hb⟩
      have HB := Lib.hid (HW.out.trans (hb.mono HW.out.size))
      clear hb a0 a1 b0 b1
      go_wp2_with fail
      go_roundw
      case rel => exact ⟨HB.out, .inr (.inr ⟨rfl, rfl⟩)⟩
      case measure => simp [intOf]
    · go_wp2_with fail
      refine (H2.out wr HW.out).mono ?_
      rintro e w1 ⟨rfl, hb⟩
      have HB := Lib.hid (HW.out.trans (hb.mono HW.out.size))
      clear hb a0 a1 b0 b1
      go_wp2_with fail
      go_ret2
      exact ⟨rfl, HB.out⟩
set_option maxRecDepth 100000 in
set_option maxHeartbeats 2000000 in
theorem l_search (p q : Prt) (h : LogAt w0 F0 w bl bd bm room limit fs v [p, q]) (hp : p.base = 0) (hq : q.base = 3) :
    Calls Tryz.prog 41 #[.pointer (some ⟨bl, 0, none⟩), .int .i64 2] w fun e w' => e = .returned (.int .i64 0) ∧ Below w.heap.size w w' := by
  have H0 := Lib.hid h
  obtain ⟨g, cap, rfl⟩ := h.row.form (by simp)
  obtain ⟨c0, c1, c2⟩ := cells3 h.cell
  have HPB := Lib.hid hp
  have HQB := Lib.hid hq
  clear h hp hq
  go_enter Tryz.func41, Tryz.ntmps41
  go_wp2_with fail
  refine (l_bsearch p q g cap H0.out HPB.out HQB.out).mono ?_
  rintro e w1 ⟨rfl, hb⟩
  go_wp2
  go_ret
  exact ⟨rfl, hb⟩
end
end Go.Proofs.YtcioejacijkbcaaGreatDoor.Lg
/- seglog: Batch of a log of two parts. -/
namespace Go.Proofs.YtcioejacijkbcaaGreatDoor.Lg
open Go.RowKit Go.Maps Go.ChangeMaps Go.WideMaps Go.Proofs.YtcioejacijkbcaaGreatDoor.Vd Go.Proofs.YtcioejacijkbcaaGreatDoor.Rc Go.Proofs.YtcioejacijkbcaaGreatDoor.Rg Go.Proofs.YtcioejacijkbcaaGreatDoor.Sg
set_option linter.unusedVariables false
section
variable {w0 w w' : World} {F0 : Nat → Prop} {bl bd bm room limit : Nat} {fs fs' : List Fil} {v : Value} {ps qs : List Prt}
theorem seg_batch {bs : Nat} {name : ByteArray} {base : Nat} {mv : Value} {a : Sg.Bat} (D : DiskAt w bd bm room fs) (h : SegIn w bs bd name base fs [a] mv) (o : Nat) (h0 : base ≤ o) (h1 : o < endOf base [a]) :
    Calls Tryz.prog 42 #[.pointer (some ⟨bs, 0, none⟩), .int .i64 o] w fun e w' => e = .returned (.tuple #[.string (Bt.str a.l), .int .i64 0]) ∧ Below w.heap.size w w' := by
  rcases h.file with hl | ⟨_, hl⟩
  · obtain ⟨l1, f, l2, rfl, hn, hb, _⟩ := look_some hl
    subst hn
    refine (batch_in [a] h.chain f (by simp) hb D h.seg o h0 h1).mono ?_
    rintro e w' ⟨hB, hb'⟩
    exact ⟨batch_one hB, hb'⟩
  · simp at hl
set_option maxRecDepth 100000 in
set_option maxHeartbeats 4000000 in
theorem l_batch (p q : Prt) (a b : Sg.Bat) (h : LogAt w0 F0 w bl bd bm room limit fs v [p, q]) (hp : p.base = 0) (hq : q.base = 3) (hpx : p.xs = [a]) (hac : a.c = 3) (hqx : q.xs = [b]) (hbc : b.c = 1) :
    Calls Tryz.prog 12 #[.pointer (some ⟨bl, 0, none⟩), .int .i64 2] w fun e w' => e = .returned (.tuple #[.string (Bt.str a.l), .int .i64 0]) ∧ Below w.heap.size w w' := by
  have H0 := Lib.hid h
  have HG := Lib.hid (l_given h (by simp))
  have HE := Lib.hid (show Calls Tryz.prog 8 #[.pointer (some ⟨bl, 0, none⟩)] w fun e w' => e = .returned (.int .i64 4) ∧ Below w.heap.size w w' from by
    have := l_end h q [p] rfl (by simp)
    rw [hqx, hq, show endOf 3 [b] = 4 from by simp [endOf, hbc]] at this
    exact this)
  have HSB := Lib.hid (fun (W : World) (hW : Below w.heap.size w W) => (show Calls Tryz.prog 42 #[.pointer (some ⟨p.bs, 0, none⟩), .int .i64 2] W fun e w' => e = .returned (.tuple #[.string (Bt.str a.l), .int .i64 0]) ∧ Below W.heap.size W w' from by
    have hs := (h.more hW).part p (by simp)
    rw [hpx, hp] at hs
    exact seg_batch (h.more hW).disk hs 2 (by decide) (by simp [endOf, hac])))
  have HPP := Lib.hid (h.part p (by simp))
  have HPB := Lib.hid hp
  have HQB := Lib.hid hq
  obtain ⟨g, cap, rfl⟩ := h.row.form (by simp)
  obtain ⟨c0, c1, c2⟩ := cells3 h.cell
  obtain ⟨_, g1, e1, a0, a1⟩ := h.row.cell 0 (by simp)
  cases e1
  simp only [List.getElem_cons_zero, Nat.zero_mul, Nat.zero_add] at a0 a1
  have HA0 := Lib.hid a0
  have HBL0 := Lib.hid (And.intro (Vd.lt_of_heap h.cell) (World.ownsRow.lt h.row g rfl).2)
  clear h hp hq hpx hac hqx hbc
  go_enter Tryz.func12, Tryz.ntmps12
  go_wp2_with fail
  refine HG.out.mono ?_
  rintro e w1 ⟨rfl, rfl⟩
  go_wp2_with fail
  refine (base_yes HPP.out.seg).mono ?_
  rintro e w1 ⟨rfl, rfl⟩
  rw [HPB.out]
  go_wp2_with fail
  refine HE.out.mono ?_
  rintro e w5 ⟨rfl, hb5⟩
  have H5 := Lib.hid (H0.out.more hb5)
  have HB5 := Lib.hid hb5
  have HBL := Lib.hid (show bl < w5.heap.size ∧ g < w5.heap.size from ⟨Nat.lt_of_lt_of_le HBL0.out.1 hb5.size, Nat.lt_of_lt_of_le HBL0.out.2 hb5.size⟩)
  have d2 := (hb5.cell (p := ⟨bl, 2, none⟩) HBL0.out.1).trans c2
  have e0 := (hb5.cell (p := ⟨g, 0, none⟩) HBL0.out.2).trans HA0.out
  have HSB5 := Lib.hid (fun (W : World) (hW : Below w5.heap.size w5 W) => HSB.out W (HB5.out.trans (hW.mono HB5.out.size)))
  have HR5 := Lib.hid ((Below.refl w5.heap.size w5).drew)
  clear hb5 c0 c1 c2 a0 a1
  go_upto_region 5 with (fail)
  refine wp_region_seqo [0, 1, 2, 3, 4, 5, 6, 7, 8, 9, 10, 11, 12, 13, 14, 15] (S := (fun w' => Below w5.heap.size w5 w' ∧ w'.cell? ⟨bl, 2, none⟩ = some (.slice (some ⟨g, 0, none⟩) 2 cap) ∧ w'.cell? ⟨g, 0, none⟩ = some (.pointer (some ⟨p.bs, 0, none⟩)))) (by kernel_rfl) (by kernel_rfl) ⟨HR5.out, d2, e0⟩ ?_
  refine Seqo.light (v := ?_) rfl (by kernel_rfl) ?_ ?_
  rotate_left 1
  focus (intro w hSw; (try dsimp only at hSw); go_simp; try with_reducible rfl)
  try simp only [Act.put, List.setIfInBounds_toArray, List.set_cons_zero, List.set_cons_succ]
  refine Seqo.light (v := ?_) rfl (by kernel_rfl) ?_ ?_
  rotate_left 1
  focus (intro w hSw; (try dsimp only at hSw); go_simp; try with_reducible rfl)
  try simp only [Act.put, List.setIfInBounds_toArray, List.set_cons_zero, List.set_cons_succ]
  refine Seqo.light (v := ?_) rfl (by kernel_rfl) ?_ ?_
  rotate_left 1
  focus (intro w hSw; (try dsimp only at hSw); go_simp; try with_reducible rfl)
  try simp only [Act.put, List.setIfInBounds_toArray, List.set_cons_zero, List.set_cons_succ]
  refine Seqo.light (v := ?_) rfl (by kernel_rfl) ?_ ?_
  rotate_left 1
  focus (intro w hSw; (try dsimp only at hSw); go_simp; try with_reducible rfl)
  try simp only [Act.put, List.setIfInBounds_toArray, List.set_cons_zero, List.set_cons_succ]
  refine Seqo.light (v := ?_) rfl (by kernel_rfl) ?_ ?_
  rotate_left 1
  focus (intro w hSw; (try dsimp only at hSw); go_simp; try with_reducible rfl)
  try simp only [Act.put, List.setIfInBounds_toArray, List.set_cons_zero, List.set_cons_succ]
  refine Seqo.light (v := ?_) rfl (by kernel_rfl) ?_ ?_
  rotate_left 1
  focus (intro w hSw; (try dsimp only at hSw); go_simp; try with_reducible rfl)
  try simp only [Act.put, List.setIfInBounds_toArray, List.set_cons_zero, List.set_cons_succ]
  refine Seqo.call (.int .i64 0) rfl (by kernel_rfl) (by kernel_rfl) (fun w hSw => by (try dsimp only at hSw); go_simp; exact ⟨rfl, rfl⟩) ?_ ?_
  · intro w3 hSw
    refine (l_search p q (H5.out.more hSw.1) HPB.out HQB.out).mono ?_
    rintro e w4 ⟨rfl, hb4⟩
    exact ⟨rfl, hSw.1.trans (hb4.mono hSw.1.size), (hb4.cell (p := ⟨bl, 2, none⟩) (Nat.lt_of_lt_of_le HBL.out.1 hSw.1.size)).trans hSw.2.1, (hb4.cell (p := ⟨g, 0, none⟩) (Nat.lt_of_lt_of_le HBL.out.2 hSw.1.size)).trans hSw.2.2⟩
  try simp only [Act.put, List.setIfInBounds_toArray, List.set_cons_zero, List.set_cons_succ]
  refine Seqo.light (v := ?_) rfl (by kernel_rfl) ?_ ?_
  rotate_left 1
  focus (intro w hSw; (try dsimp only at hSw); go_simp; try with_reducible rfl)
  try simp only [Act.put, List.setIfInBounds_toArray, List.set_cons_zero, List.set_cons_succ]
  refine Seqo.light (v := ?_) rfl (by kernel_rfl) ?_ ?_
  rotate_left 1
  focus (intro w hSw; (try dsimp only at hSw); go_simp; try with_reducible rfl)
  try simp only [Act.put, List.setIfInBounds_toArray, List.set_cons_zero, List.set_cons_succ]
  refine Seqo.light (v := ?_) rfl (by kernel_rfl) ?_ ?_
  rotate_left 1
  focus (intro w hSw; (try dsimp only at hSw); go_simp; try with_reducible rfl)
  try simp only [Act.put, List.setIfInBounds_toArray, List.set_cons_zero, List.set_cons_succ]
  refine Seqo.light (v := ?_) rfl (by kernel_rfl) ?_ ?_
  rotate_left 1
  focus (intro w hSw; (try dsimp only at hSw); go_simp; try with_reducible rfl)
  try simp only [Act.put, List.setIfInBounds_toArray, List.set_cons_zero, List.set_cons_succ]
  refine Seqo.call (.tuple #[.string (Bt.str a.l), .int .i64 0]) rfl (by kernel_rfl) (by kernel_rfl) (fun w hSw => by (try dsimp only at hSw); go_simp; exact ⟨rfl, rfl⟩) ?_ ?_
  · intro w3 hSw
    refine (HSB5.out w3 hSw.1).mono ?_
    rintro e w4 ⟨rfl, hb4⟩
    exact ⟨rfl, hSw.1.trans (hb4.mono hSw.1.size), (hb4.cell (p := ⟨bl, 2, none⟩) (Nat.lt_of_lt_of_le HBL.out.1 hSw.1.size)).trans hSw.2.1, (hb4.cell (p := ⟨g, 0, none⟩) (Nat.lt_of_lt_of_le HBL.out.2 hSw.1.size)).trans hSw.2.2⟩
  try simp only [Act.put, List.setIfInBounds_toArray, List.set_cons_zero, List.set_cons_succ]
  refine Seqo.light (v := ?_) rfl (by kernel_rfl) ?_ ?_
  rotate_left 1
  focus (intro w hSw; (try dsimp only at hSw); go_simp; try with_reducible rfl)
  try simp only [Act.put, List.setIfInBounds_toArray, List.set_cons_zero, List.set_cons_succ]
  refine Seqo.light (v := ?_) rfl (by kernel_rfl) ?_ ?_
  rotate_left 1
  focus (intro w hSw; (try dsimp only at hSw); go_simp; try with_reducible rfl)
  try simp only [Act.put, List.setIfInBounds_toArray, List.set_cons_zero, List.set_cons_succ]
  refine Seqo.light (v := ?_) rfl (by kernel_rfl) ?_ ?_
  rotate_left 1
  focus (intro w hSw; (try dsimp only at hSw); go_simp; try with_reducible rfl)
  try simp only [Act.put, List.setIfInBounds_toArray, List.set_cons_zero, List.set_cons_succ]
  refine Seqo.light (v := ?_) rfl (by kernel_rfl) ?_ ?_
  rotate_left 1
  focus (intro w hSw; (try dsimp only at hSw); go_simp; try with_reducible rfl)
  try simp only [Act.put, List.setIfInBounds_toArray, List.set_cons_zero, List.set_cons_succ]
  refine Seqo.nil fun w6 hS6 => ?_
  have HB6 := Lib.hid (HB5.out.trans (hS6.1.mono HB5.out.size))
  clear hS6 d2 e0
  go_wp2
  go_ret2
  exact ⟨rfl, HB6.out⟩
end
end Go.Proofs.YtcioejacijkbcaaGreatDoor.Lg
/- seglog: the first manifest, read: texts and numbers of the standard library. -/
set_option linter.unusedSimpArgs false
namespace Go.Proofs.YtcioejacijkbcaaGreatDoor.Lg
open Go.RowKit Go.Maps Go.ChangeMaps Go.WideMaps Go.Proofs.YtcioejacijkbcaaGreatDoor.Vd Go.Proofs.YtcioejacijkbcaaGreatDoor.Rc Go.Proofs.YtcioejacijkbcaaGreatDoor.Rg Go.Proofs.YtcioejacijkbcaaGreatDoor.Sg
set_option linter.unusedVariables false
def line : ByteArray := { data := #[48, 32, 48] }
def zero : ByteArray := { data := #[48] }
theorem trim0 (w : World) : Calls Tryz.prog 33 #[.string { data := #[48, 32, 48, 10] }, .string { data := #[10] }] w fun e w' => e = .returned (.string line) ∧ w = w' := by
  refine (Tryz.strings_TrimSuffix { data := #[48, 32, 48, 10] } { data := #[10] } w (by decide)).mono ?_
  rintro e w' ⟨rfl, rfl⟩
  exact ⟨by rfl, rfl⟩
theorem atoi0 (w : World) : Calls Tryz.prog 35 #[.string zero] w fun e w' => e = .returned (.tuple #[.int .i64 0, .nilIface]) ∧ Below w.heap.size w w' := by
  refine (Tryz.strconv_Atoi zero 0 (by decide) (by rfl) w).mono ?_
  rintro e w' ⟨rfl, t, rfl⟩
  refine ⟨rfl, ?_⟩
  unfold Lib.bytesWorld World.freeze
  rw [if_neg (by decide)]
  have h1 := ((Below.refl w.heap.size w).drew).alloc (o := .cells (Lib.bytesCells w 5 t) 5) (Nat.le_refl _)
  refine ⟨h1.os, h1.tape, h1.output, ?_, ?_⟩
  · have := h1.size
    simp
  · intro k hk
    have := h1.block k hk
    rw [← this]
    show (Array.modify _ _ _)[k]? = _
    rw [Array.getElem?_modify, if_neg (by show ¬ w.heap.size = k; omega)]
theorem cut_in (w : World) : Calls Tryz.prog 68 #[.string line, .string { data := #[32] }] w fun e w' => e = .returned (.tuple #[.string zero, .string zero, .bool true]) ∧ Below w.heap.size w w' := by
  have HI := Lib.hid (fun w => Tryz.stringslite_Index_one line 32 w)
  go_enter Tryz.func68, Tryz.ntmps68
  go_wp2_with fail
  refine (HI.out _).mono ?_
  rintro e w1 ⟨rfl, rfl⟩
  rw [show Lib.indexByte line.data.toList 32 = 1 from by rfl]
  go_upto_region 3 with (fail)
  unfold line
  go_quiet (fail)
  go_wp2_with fail
  go_ret3
  exact ⟨rfl, rfl, rfl, rfl, Nat.le_refl _, fun _ _ => rfl⟩
theorem cut0 (w : World) : Calls Tryz.prog 34 #[.string line, .string { data := #[32] }] w fun e w' => e = .returned (.tuple #[.string zero, .string zero, .bool true]) ∧ Below w.heap.size w w' := by
  have HI := Lib.hid (fun w => cut_in w)
  go_enter Tryz.func34, Tryz.ntmps34
  go_wp2_with fail
  refine (HI.out _).mono ?_
  rintro e w1 ⟨rfl, hb⟩
  go_wp2_with fail
  go_ret3
  exact ⟨rfl, hb⟩
theorem infoT : ((Tryz.prog.info? 9).map fun i => (i.zero, i.size, i.bytes)) = some (some (.string ⟨#[]⟩), 1, 16) := by kernel_rfl
theorem make1 (W : World) : (Instr.makeSlice 46 (.int .i64 1) (.int .i64 1)).run Tryz.prog W = .ok (.slice (some ⟨W.heap.size, 0, none⟩) 1 1) (W.alloc (.cells #[.string ⟨#[]⟩] 9)) := by
  obtain ⟨i0, hi, hz0, hz1, hz2⟩ := Bt.info_parts infoT
  have := run_make (P := Tryz.prog) W 46 9 i0 (.string ⟨#[]⟩) Tryz.underlying46 hi hz0 .i64 .i64 1 1 (by omega) (by omega) (by rw [hz2]; omega) (by omega)
  have e : madeCells #[.string ⟨#[]⟩] 1 = #[.string ⟨#[]⟩] := by first | kernel_rfl | simp [madeCells, Array.range]
  simp only [Value.cells, hz1] at this
  rw [← e]
  simpa [Value.cells, hz1] using this
set_option maxRecDepth 100000 in
theorem gensplit (w : World) : Calls Tryz.prog 66 #[.string line, .string { data := #[10] }, .int .i64 0, .int .i64 (-1)] w fun e w' => e = .returned (.slice (some ⟨w.heap.size, 0, none⟩) 1 1) ∧ w'.heap[w.heap.size]? = some (.cells #[.string line] 9 (0, 0)) ∧ Below w.heap.size w w' := by
  have HI := Lib.hid (fun w => Tryz.strings_Count_one line 10 w)
  have hmk := fun W => make1 W
  have hmin : min (1 : Int) (wrap64 ((line.size : Int) + 1)) = 1 := by rw [show line.size = 3 from rfl]; unfold wrap64; omega
  go_enter Tryz.func66, Tryz.ntmps66
  go_wp2_with fail
  refine (HI.out _).mono ?_
  rintro e w1 ⟨rfl, rfl⟩
  rw [show Lib.countByte line.data.toList 10 = 0 from by rfl]
  have hb := (Below.refl w1.heap.size w1).alloc (Nat.le_refl _) (.cells #[.string ⟨#[]⟩] 9)
  have hn := heap_alloc_new w1 (.cells #[.string ⟨#[]⟩] 9)
  have hc : (w1.alloc (.cells #[.string ⟨#[]⟩] 9)).cell? ⟨w1.heap.size, 0, none⟩ = some (.string ⟨#[]⟩) := by rw [Vd.cell_of hn]; rfl
  have hfz := fun j => Lib.frozen_of_heap hn j
  have HB := Lib.hid hb
  have HN := Lib.hid hn
  clear hb hn
  go_wp2_with fail
  go_loopw [0, 10] (fun x i V => (x = .string line ∧ i = .int .i64 0) ∧ V = w1.alloc (.cells #[.string ⟨#[]⟩] 9)) (fun _ _ _ => 0)
  case atStart => exact ⟨⟨rfl, rfl⟩, rfl⟩
  case round =>
    obtain ⟨⟨rfl, rfl⟩, rfl⟩ := hrel
    go_wp2_with fail
    go_ret
    exact ⟨rfl, heap_alloc_new w1 _, (Below.refl w1.heap.size w1).alloc (Nat.le_refl _) _⟩
theorem split0 (w : World) : Calls Tryz.prog 32 #[.string line, .string { data := #[10] }] w fun e w' => e = .returned (.slice (some ⟨w.heap.size, 0, none⟩) 1 1) ∧ w'.heap[w.heap.size]? = some (.cells #[.string line] 9 (0, 0)) ∧ Below w.heap.size w w' := by
  have HI := Lib.hid (fun w => gensplit w)
  go_enter Tryz.func32, Tryz.ntmps32
  go_wp2_with fail
  refine (HI.out _).mono ?_
  rintro e w1 ⟨rfl, h1, h2⟩
  have H1 := Lib.hid (And.intro h1 h2)
  clear h1 h2
  go_wp2_with fail
  go_ret
  exact ⟨rfl, H1.out⟩
end Go.Proofs.YtcioejacijkbcaaGreatDoor.Lg
/- seglog: Open on an empty disk. -/
namespace Go.Proofs.YtcioejacijkbcaaGreatDoor.Lg
open Go.RowKit Go.Maps Go.ChangeMaps Go.WideMaps Go.Proofs.YtcioejacijkbcaaGreatDoor.Vd Go.Proofs.YtcioejacijkbcaaGreatDoor.Rc Go.Proofs.YtcioejacijkbcaaGreatDoor.Rg Go.Proofs.YtcioejacijkbcaaGreatDoor.Sg
set_option linter.unusedVariables false
def P0 (b : Nat) : Prt := ⟨b, 0, [], .slice none 0 0⟩
section
variable {w0 w w' : World} {F0 : Nat → Prop} {bl bd bm room limit : Nat} {fs fs' : List Fil} {v : Value} {ps qs : List Prt}
theorem LogAt.kept (h : LogAt w0 F0 w bl bd bm room limit fs v ps) (hk : ∀ k, k ∈ own bl v ps ∨ DiskB bd bm fs k → w'.heap[k]? = w.heap[k]?) (hb : Vd.Touch F0 w0 w') : LogAt w0 F0 w' bl bd bm room limit fs v ps := by
  refine ⟨h.disk.kept fun k hd => hk k (.inr hd), (hk bl (.inl (by simp [own]))).trans h.cell, Vd.ownsRow_at h.row fun k hv => hk k (.inl (by simp [own, hv])), ?_, h.bases, h.nodup, h.apart, h.dsk, h.ge, hb, h.tab⟩
  intro p hp
  have hs := h.part p hp
  exact ⟨⟨(hk _ (.inl (mem_own_bs hp))).trans hs.seg.cell, Vd.ownsRow_at hs.seg.own fun k hm => hk k (.inl (mem_own_mv hp hm))⟩, hs.chain, hs.good, hs.file⟩
theorem look_nil (n : ByteArray) : look [] n = none := rfl
/-- a disk that has the manifest alone -/
theorem only_man {l : List UInt8} (h : look fs man = some l) (hl : fs.length ≤ 1) : sorted fs = [man.data.toList] ∧ fs.length = 1 := by
  obtain ⟨l1, f, l2, rfl, hn, _, _⟩ := look_some h
  have h1 : l1 = [] := List.length_eq_zero_iff.1 (by simp at hl; omega)
  have h2 : l2 = [] := List.length_eq_zero_iff.1 (by simp at hl; omega)
  subst h1
  subst h2
  refine ⟨?_, rfl⟩
  simp [sorted, Vd.nm, hn]
def OpRel (w0 : World) (F0 : Nat → Prop) (W : World) (bl bd bm room limit : Nat) (fs : List Fil) (i : Value) (V : World) : Prop :=
  (i = .int .i64 0 ∧ V = W) ∨ (i = .int .i64 1 ∧ ∃ b v, LogAt w0 F0 V bl bd bm room limit fs v [P0 b])
set_option maxRecDepth 100000 in
set_option maxHeartbeats 4000000 in
theorem l_open (D : DiskAt w bd bm room []) (hroom : 4 ≤ room) (hl1 : 1 ≤ limit) (hl2 : limit ≤ 16777216) (hge : ∀ k, DiskB bd bm [] k → F0 k ∨ w0.heap.size ≤ k) (hb0 : Vd.Touch F0 w0 w) (hT : Tab w0 ∧ ¬ F0 3) :
    Calls Tryz.prog 11 #[.pointer (some ⟨bd, 0, none⟩), .int .i64 limit] w fun e w' => ∃ bl b v fs', e = .returned (.tuple #[.pointer (some ⟨bl, 0, none⟩), .int .i64 0]) ∧ LogAt w0 F0 w' bl bd bm room limit fs' v [P0 b] ∧
      look fs' fresh = none ∧ (∀ n, n ≠ man → look fs' n = none) ∧ total fs' ≤ 4 ∧ fs'.length ≤ 1 := by
  have HD := Lib.hid D
  have HG := Lib.hid (And.intro hge hb0)
  have HRM := Lib.hid hroom
  have hmm := @run_makeMap Tryz.prog
  have hlt1 : ¬ (limit : Int) < 1 := by omega
  have hlt2 : ¬ 16777216 < (limit : Int) := by omega
  have HTAB := Lib.hid hT
  clear D hge hb0 hroom hl1 hl2 hT
  go_enter Tryz.func11, Tryz.ntmps11
  go_wp2_with fail
  refine (read_none HD.out man good_man (by simp)).mono ?_
  rintro e w1 ⟨rfl, hb1⟩
  have hbA := (Below.refl w1.heap.size w1).alloc (Nat.le_refl _) (.cells #[.pointer (some ⟨bd, 0, none⟩), .int .i64 limit, .slice none 0 0] 42)
  have HL1 := Lib.hid (show LogAt w0 F0 (w1.alloc (.cells #[.pointer (some ⟨bd, 0, none⟩), .int .i64 limit, .slice none 0 0] 42)) w1.heap.size bd bm room limit [] (.slice none 0 0) [] from by
    have hD1 := HD.out.below hb1
    have hd : ¬ DiskB bd bm [] w1.heap.size := fun hk => by have := hD1.lt _ hk; omega
    have hz := Nat.le_trans HG.out.2.size hb1.size
    refine ⟨hD1.below hbA, heap_alloc_new _ _, World.ownsRow_nil _ _ _ _, by simp, by simp, by simp, by simp [Value.ownBlock], ?_, ?_, ?_, HTAB.out⟩
    · intro k hk
      simp [Value.ownBlock] at hk
      rw [hk]; exact hd
    · intro k hk
      rcases hk with hk | hk
      · simp [Value.ownBlock] at hk
        rw [hk]; exact .inr hz
      · exact HG.out.1 k hk
    · exact (HG.out.2.trans (Vd.Touch.ofBelow (F := fun _ => False) hb1) (fun _ hx => hx.elim)).trans (Vd.Touch.ofBelow (F := fun _ => False) hbA) (fun _ hx => hx.elim))
  clear hb1 hbA
  go_wp2_with fail
  generalize w1.alloc (.cells #[.pointer (some ⟨bd, 0, none⟩), .int .i64 limit, .slice none 0 0] 42) = w2 at HL1 ⊢
  generalize w1.heap.size = bl at HL1 ⊢
  refine (size_none HL1.out.disk man good_man (by simp)).mono ?_
  rintro e w3 ⟨rfl, hb3⟩
  have HL3 := Lib.hid (HL1.out.more hb3)
  clear hb3
  go_wp2_with fail
  refine (listed _ 0 (by decide) (.inr rfl)).mono ?_
  rintro e w4 ⟨rfl, hb4⟩
  have HL3 := Lib.hid (HL3.out.more hb4)
  clear hb4
  rw [ln0]
  go_wp2_with fail
  refine (l_writes HL3.out.disk 0 (cells3 HL3.out.cell).1 (HL3.out.dsk bl (by simp)) (look_nil _) { data := #[48, 32, 48, 10] } (by simp) (by show 0 + 4 ≤ room; have := HRM.out; omega)).mono ?_
  rintro e w5 ⟨rfl, fs, hW⟩
  have HL5 := Lib.hid (HL3.out.step hW.ev (by simp))
  have HM := Lib.hid (show look fs man = some [48, 32, 48, 10] from hW.m)
  have HF := Lib.hid (show look fs fresh = none from hW.f)
  have HO := Lib.hid (show ∀ n, n ≠ man → look fs n = none from fun n hn => by
    by_cases h : n = fresh
    · rw [h]; exact hW.f
    · exact (hW.other n hn h).trans (look_nil n))
  have HT := Lib.hid (show total fs ≤ 4 ∧ fs.length ≤ 1 from ⟨hW.tot, hW.few⟩)
  clear hW
  go_wp2_with fail
  refine (d_size_some HL5.out.disk man _ HM.out).mono ?_
  rintro e w6 ⟨rfl, hb6⟩
  have HL6 := Lib.hid (HL5.out.more hb6)
  clear hb6
  go_wp2_with fail
  refine (d_read_some HL6.out.disk man _ HM.out 0 4 (by decide)).mono ?_
  rintro e w7 ⟨rfl, hb7⟩
  rw [show str ((([48, 32, 48, 10] : List UInt8).drop 0).take 4) = { data := #[48, 32, 48, 10] } from rfl]
  have HL7 := Lib.hid (HL6.out.more hb7)
  clear hb7
  have hbM := (Below.refl w7.heap.size w7).alloc (Nat.le_refl _) (.map #[] 0)
  have HL8 := Lib.hid (HL7.out.more hbM)
  have HMap := Lib.hid (Mp.mapAt_made (P := Tryz.prog) (k := 9) w7)
  have HKM := Lib.hid (show w7.heap.size ∉ own bl (.slice none 0 0) [] ∧ ¬ DiskB bd bm fs w7.heap.size ∧ w0.heap.size ≤ w7.heap.size from ⟨fun hk => by have := HL7.out.lt _ hk; omega, fun hk => by have := HL7.out.disk.lt _ hk; omega, HL7.out.below.size⟩)
  clear hbM
  go_wp2_with fail
  generalize w7.alloc (.map #[] 0) = w8 at HL8 HMap ⊢
  generalize w7.heap.size = km at HKM HMap ⊢
  refine (trim0 _).mono ?_
  rintro e w9 ⟨rfl, rfl⟩
  go_wp2_with fail
  refine (split0 _).mono ?_
  rintro e w9 ⟨rfl, hc9, hb9⟩
  have HL9 := Lib.hid (HL8.out.more hb9)
  have HMap9 := Lib.hid (HMap.out.kept (hb9.block _ HMap.out.lt))
  have HC9 := Lib.hid hc9
  clear hb9 hc9
  generalize w8.heap.size = sb at HC9 ⊢
  go_wp2_with fail
  go_loopw [71] (fun i V => OpRel w0 F0 w9 bl bd bm room limit fs i V) (fun i _ => 1 - (intOf i).toNat)
  case atStart => exact .inl ⟨rfl, rfl⟩
  case round =>
    rcases hrel with ⟨rfl, rfl⟩ | ⟨rfl, b, v, hL⟩
    · have hc : wr.cell? ⟨sb, 0, none⟩ = some (.string line) := Vd.cell_of HC9.out 0
      go_wp2_with fail
      refine (cut0 _).mono ?_
      rintro e w10 ⟨rfl, hb10⟩
      have HB10 := Lib.hid hb10
      clear hb10
      go_wp2_with fail
      refine (atoi0 _).mono ?_
      rintro e w11 ⟨rfl, hb11⟩
      have HB11 := Lib.hid (HB10.out.trans (hb11.mono HB10.out.size))
      clear hb11
      go_wp2_with fail
      refine (atoi0 _).mono ?_
      rintro e w12 ⟨rfl, hb12⟩
      have hb13 := HB11.out.trans (hb12.mono HB11.out.size)
      have HL12 := Lib.hid (HL9.out.more hb13)
      have HMap12 := Lib.hid (HMap9.out.kept (hb13.block _ HMap9.out.lt))
      clear hb12 hb13 hc
      obtain ⟨y0, y1, y2⟩ := cells3 HL12.out.cell
      go_wp2_with fail
      refine (l_opens HL12.out.disk y0 0 (by decide) (HO.out _ (nm_ne 0).1)).mono ?_
      rintro e w13 ⟨b, rfl, hlb, hsi, hb13⟩
      have HL13 := Lib.hid (HL12.out.more hb13)
      have HMap13 := Lib.hid (HMap12.out.kept (hb13.block _ HMap12.out.lt))
      have HSI := Lib.hid hsi
      have HBO := Lib.hid (show b ∉ own bl (.slice none 0 0) [] ∧ ¬ DiskB bd bm fs b ∧ w0.heap.size ≤ b ∧ km ≠ b from ⟨fun hk => by have := HL12.out.lt b hk; omega, fun hk => by have := HL12.out.disk.lt b hk; omega, Nat.le_trans HL12.out.below.size hlb, by have := HMap12.out.lt; omega⟩)
      have HBS := Lib.hid (Vd.lt_of_heap hsi.seg.cell)
      clear hlb hsi hb13 y0 y1 y2
      have hb14 := (Below.refl w13.heap.size w13).alloc (Nat.le_refl _) (.cells #[.pointer (some ⟨b, 0, none⟩), .int .i64 0] 66)
      have HL14 := Lib.hid (HL13.out.more hb14)
      have HSI14 := Lib.hid (HSI.out.below hb14)
      have HMap14 := Lib.hid (HMap13.out.kept (hb14.block _ HMap13.out.lt))
      have HT14 := Lib.hid (heap_alloc_new w13 (.cells #[.pointer (some ⟨b, 0, none⟩), .int .i64 0] 66))
      clear hb14
      go_upto_region 21 with (fail)
      generalize w13.alloc (.cells #[.pointer (some ⟨b, 0, none⟩), .int .i64 0] 66) = w14 at HL14 HSI14 HMap14 HT14 ⊢
      generalize w13.heap.size = pb at HT14 ⊢
      obtain ⟨y0, y1, y2⟩ := cells3 HL14.out.cell
      obtain ⟨t0, t1⟩ := cells2 HT14.out
      have hbA := (Below.refl w14.heap.size w14).alloc (Nat.le_refl _) (.cells #[.pointer (some ⟨b, 0, none⟩), .int .i64 0] 66)
      have HA := Lib.hid (HL14.out.more hbA)
      have HBA := Lib.hid hbA
      obtain ⟨z0, z1, z2⟩ := cells3 HA.out.cell
      clear hbA
      go_region_law (go_loud (refine step_append_part rfl (.tmp 125) (.tmp 127) rfl 0 (.slice none 0 0) [] (by simp [Act.eval, Act.put]) (World.ownsRow_nil _ _ _ _) w14.heap.size (P0 b) (by simp [Act.eval, Act.put]) (heap_alloc_new w14 _) (by simp) (Nat.zero_le _) ?_; intro g c w15 ho hg hv hl; have HB15 := Lib.hid (HBA.out.drew.grown hg HBA.out.drew.size (fun k hk => by cases hk)); have HO15 := Lib.hid ho; have HG15 := Lib.hid (show g = w14.heap.size + 1 from hv.elim (fun h => by cases h) (fun h => h.trans (show (w14.heap.push _).size = _ by simp))); have HL15 := Lib.hid (HL14.out.more HB15.out); have HGL := Lib.hid hl; obtain ⟨x0, x1, x2⟩ := cells3 HL15.out.cell; have hfz := fun j => Lib.frozen_of_heap HL15.out.cell j; clear ho hg hv hl))
      all_goals
        have HGE := Lib.hid (show g ≠ b ∧ g ∉ own bl (.slice none 0 0) [] ∧ ¬ DiskB bd bm fs g ∧ w0.heap.size ≤ g ∧ km ≠ g ∧ km ≠ bl from by
          have h1 := HG15.out
          have h2 := Vd.lt_of_heap HSI14.out.seg.cell
          have h3 := HMap14.out.lt
          have h4 := HL14.out.below.size
          refine ⟨by omega, fun hk => by have := HL14.out.lt g hk; omega, fun hk => by have := HL14.out.disk.lt g hk; omega, by omega, by omega, fun e => HKM.out.1 (by simp [own, e])⟩)
        have HL16 := Lib.hid (HL15.out.add (P0 b) (.slice (some ⟨g, 0, none⟩) 1 c) g rfl HO15.out (HSI14.out.below HB15.out) (show 0 < 500 by decide) (by simp) rfl HGE.out.1 HGE.out.2.1 HBO.out.1 HGE.out.2.2.1 HBO.out.2.1 (.inr HGE.out.2.2.2.1) (.inr HBO.out.2.2.1))
        have HMap16 := Lib.hid ((HMap14.out.kept (HB15.out.block _ HMap14.out.lt)).kept (Rc.set_other w15 ⟨bl, 2, none⟩ (.slice (some ⟨g, 0, none⟩) 1 c) km HGE.out.2.2.2.2.2))
        clear y0 y1 y2 t0 t1 z0 z1 z2 x0 x1 x2 hfz
        go_wp2_with fail
        refine (named _ 0 (by decide)).mono ?_
        rintro e w17 ⟨rfl, hb17⟩
        have HL17 := Lib.hid (HL16.out.more hb17)
        have hmp := HMap16.out.kept (hb17.block _ HMap16.out.lt)
        clear hb17
        obtain ⟨o, m', hmu, _, _⟩ := Mp.store hmp law Tryz.underlying73 (good_nm 0 (by decide)).key (.bool true)
        have HL18 := Lib.hid (HL17.out.kept (w' := setBlock w17 km o) (fun k hk => Mp.setBlock_other (fun e => by
          subst e
          rcases hk with hk | hk
          · simp [own, Prt.blocks, P0, Value.ownBlock] at hk
            rcases hk with hk | hk | hk
            · exact HGE.out.2.2.2.2.2 hk
            · exact HGE.out.2.2.2.2.1 hk
            · exact HBO.out.2.2.2 hk
          · exact HKM.out.2.1 hk) o) (HL17.out.below.trans (touch_setBlock _ _ _) (fun x hx => .inr (by rw [hx]; exact HKM.out.2.2))))
        clear hmp
        go_wp2_with fail
        go_roundw
        case rel => exact .inr ⟨rfl, b, _, HL18.out⟩
        case measure => decide
    · have HL := Lib.hid hL
      clear hL
      go_wp2_with fail
      refine (names_yes HL.out.disk).mono ?_
      rintro e w10 ⟨nv, rfl, hn, hb10⟩
      rw [(only_man HM.out HT.out.2).1, (only_man HM.out HT.out.2).2] at hn
      have HL10 := Lib.hid (HL.out.more hb10)
      clear hb10
      obtain ⟨g, cap, rfl, _, _⟩ := World.ownsRow.form hn (by decide)
      have hc : w10.cell? ⟨g, 0, none⟩ = some (.string { data := #[109, 97, 110, 105, 102, 101, 115, 116] }) := (World.ownsRow.cellAt hn 0 (by decide)).trans rfl
      clear hn
      go_wp2_with fail
      go_loopw [139] (fun i V => (i = .int .i64 0 ∨ i = .int .i64 1) ∧ V = w10) (fun i _ => 1 - (intOf i).toNat)
      case atStart => exact ⟨.inl rfl, rfl⟩
      case round =>
        obtain ⟨hi, rfl⟩ := hrel
        rcases hi with rfl | rfl
        · go_wp2_with fail
          refine (Tryz.strings_HasPrefix _ _ _).mono ?_
          rintro e w11 ⟨rfl, rfl⟩
          rw [show Lib.hasPrefix _ _ = false from rfl]
          go_wp2_with fail
          go_roundw
          case rel => exact ⟨.inr rfl, trivial⟩
          case measure => decide
        · go_wp2
          go_ret2
          exact ⟨bl, b, v, fs, rfl, HL10.out, HF.out, HO.out, HT.out⟩
end
end Go.Proofs.YtcioejacijkbcaaGreatDoor.Lg
/- the seglog law: a log of its own; awake. -/
namespace Go.Proofs.YtcioejacijkbcaaGreatDoor.Lg
open Go.RowKit Go.Maps Go.ChangeMaps Go.WideMaps Go.Proofs.YtcioejacijkbcaaGreatDoor.Vd Go.Proofs.YtcioejacijkbcaaGreatDoor.Rc Go.Proofs.YtcioejacijkbcaaGreatDoor.Rg Go.Proofs.YtcioejacijkbcaaGreatDoor.Sg
set_option linter.unusedVariables false
theorem l_begun (w : World) (limit : Nat) (hl1 : 1 ≤ limit) (hl2 : limit ≤ 16777216) (hT : Tab w) :
    Calls Tryz.prog 5 #[.int .i64 limit] w fun e w' => ∃ bd bm bl b v fs, e = .returned (.tuple #[.pointer (some ⟨bd, 0, none⟩), .pointer (some ⟨bl, 0, none⟩), .bool true]) ∧
      LogAt w (fun _ => False) w' bl bd bm 4194304 limit fs v [P0 b] ∧ look fs fresh = none ∧ (∀ n, n ≠ man → look fs n = none) ∧ total fs ≤ 4 ∧ fs.length ≤ 1 := by
  have HL := Lib.hid (And.intro hl1 hl2)
  have HT := Lib.hid hT
  clear hl1 hl2 hT
  go_enter Tryz.func5, Tryz.ntmps5
  go_wp2_with fail
  refine (new_disk w 4194304 (by omega)).mono ?_
  rintro e w1 ⟨rfl, O1⟩
  have H1 := Lib.hid O1
  clear O1
  go_wp2_with fail
  refine (l_open (w0 := w) (F0 := fun _ => False) H1.out.disk (by decide) HL.out.1 HL.out.2 (fun k hk => .inr (H1.out.ge k hk)) (Vd.Touch.ofBelow H1.out.below) ⟨HT.out, fun h => h⟩).mono ?_
  rintro e w2 ⟨bl, b, v, fs, rfl, hL⟩
  have HX := Lib.hid hL
  clear hL
  go_wp2
  go_ret3
  exact ⟨_, _, bl, b, v, fs, rfl, HX.out⟩
set_option maxRecDepth 100000 in
set_option maxHeartbeats 1000000 in
theorem awake (w : World) (hT : Tab w) : Calls Tryz.prog 6 #[] w fun e w' => e = .returned (.bool true) ∧ Below w.heap.size w w' := by
  obtain ⟨x, hx⟩ : ∃ x, x = made 0 2 0 0 0 ⟨#[]⟩ := ⟨_, rfl⟩
  have hok : x.Ok := by rw [hx]; exact made_ok 0 2 0 0 0 ⟨#[]⟩ (by decide) (by decide) (by decide) (by decide) (by decide)
  have hxb : x.b = 0 := by rw [hx]; rfl
  have hxc : x.c = 3 := by rw [hx]; rfl
  have hm := fun w => made_walk w 2 0 0 0 ⟨#[]⟩ 0 2 0 0 0 b27 (by decide) b07 (by decide) b0255 (by decide) b0w (by decide) (by decide) (by decide)
  rw [← hx] at hm
  obtain ⟨y, hy⟩ : ∃ y, y = made 3 0 0 0 0 ⟨#[]⟩ := ⟨_, rfl⟩
  have hok' : y.Ok := by rw [hy]; exact made_ok 3 0 0 0 0 ⟨#[]⟩ (by decide) (by decide) (by decide) (by decide) (by decide)
  have hyb : y.b = 3 := by rw [hy]; rfl
  have hyc : y.c = 1 := by rw [hy]; rfl
  have hm' := fun w => made_walk w 0 0 0 0 ⟨#[]⟩ 3 0 0 0 0 b07 (by decide) b07 (by decide) b0255 (by decide) b0w (by decide) (by decide) (by decide)
  rw [← hy] at hm'
  have HM := Lib.hid hm
  have HM' := Lib.hid hm'
  clear hm hm'
  have HX := Lib.hid hok
  have HXB := Lib.hid hxb
  have HXC := Lib.hid hxc
  have HY := Lib.hid hok'
  have HT := Lib.hid hT
  have HYB := Lib.hid hyb
  have HYC := Lib.hid hyc
  clear hok hxb hxc hx hok' hyb hyc hy hT
  go_enter Tryz.func6, Tryz.ntmps6
  go_wp2_with fail
  refine (l_begun w 1 (by decide) (by decide) HT.out).mono ?_
  rintro e w1 ⟨bd, bm, bl, b, v, fs, rfl, hL, hF⟩
  have H1 := Lib.hid hL
  have HF := Lib.hid hF
  clear hL hF
  go_wp2_with fail
  refine (HM.out w1).mono ?_
  rintro e w2 ⟨rfl, hb2⟩
  have H2 := Lib.hid (H1.out.more hb2)
  clear hb2
  go_wp2_with fail
  refine (HM'.out w2).mono ?_
  rintro e w3 ⟨rfl, hb3⟩
  have H3 := Lib.hid (H2.out.more hb3)
  clear hb3
  go_wp2_with fail
  refine (l_app_order (qs := []) (p := P0 b) H3.out y HY.out (by rw [HYB.out]; show 3 ≠ endOf 0 []; decide) (by simp)).mono ?_
  rintro e w4 ⟨rfl, hb4⟩
  have H4 := Lib.hid (H3.out.more hb4)
  clear hb4
  go_wp2_with fail
  refine (l_app_in (qs := []) (p := P0 b) H4.out x HX.out (by rw [HXB.out]; rfl) (by simp) (by show 0 < 1; decide) (by decide) (by show 0 ≤ 1000; decide) (by have := HF.out.2.2.2; omega) (by have h1 := HF.out.2.2.1; have h2 := HX.out.len; omega)).mono ?_
  rintro e w5 ⟨rfl, fs5, mv, hL, k1, k2, k3, k4⟩
  have H5 := Lib.hid hL
  have HK := Lib.hid (And.intro k1 (And.intro k2 (And.intro k3 k4)))
  have HE5 := Lib.hid (show endOf (((P0 b).more x mv).base) (((P0 b).more x mv).xs) = 3 from by show endOf 0 [x] = 3; simp [endOf, HXC.out])
  clear hL k1 k2 k3 k4
  go_wp2_with fail
  refine (l_app_roll (qs := []) (p := (P0 b).more x mv) H5.out y HY.out (by rw [HE5.out]; exact HYB.out) (by simp) (by show 1 ≤ (text [x]).length; have := HX.out.len; simp [text]; omega) (by decide) 3 HE5.out (by decide) (by show 3 ∉ [0]; decide)
    (by rw [HK.out.1 _ (nm_inj (a := 3) (b := 0) (by decide) (by decide) (by decide))]; exact HF.out.2.1 _ (nm_ne 3).1) (by rw [HK.out.1 _ (fun e => (nm_ne 0).2 e.symm)]; exact HF.out.1) _ HK.out.2.1
    (by have h1 := HF.out.2.2.2; have h2 := HK.out.2.2.2; omega) (by show total fs5 + 6 * 2 + y.l.length ≤ 4194304; have h1 := HF.out.2.2.1; have h2 := HX.out.len; have h3 := HY.out.len; have h4 := HK.out.2.2.1; omega)).mono ?_
  rintro e w6 ⟨rfl, fs6, v6, b6, mv6, hL, _⟩
  have H6 := Lib.hid hL
  clear hL
  go_wp2_with fail
  refine (l_segments H6.out (by simp) (by simp)).mono ?_
  rintro e w7 ⟨sv, rfl, hI, hb7⟩
  have H7 := Lib.hid (H6.out.more hb7)
  have HI7 := Lib.hid hI
  clear hI hb7
  go_wp2_with fail
  refine (l_batch ((P0 b).more x mv) ((Prt.mk b6 3 [] (.slice none 0 0)).more y mv6) x y H7.out rfl rfl rfl HXC.out rfl HYC.out).mono ?_
  rintro e w8 ⟨rfl, hb8⟩
  have H8 := Lib.hid (H7.out.more hb8)
  obtain ⟨g, cap, hsv, _, _⟩ := World.ownsRow.form HI7.out (by simp)
  replace hsv : sv = .slice (some ⟨g, 0, none⟩) 2 cap := hsv
  subst hsv
  have hs1 : w7.cell? ⟨g, 1, none⟩ = some (.int .i64 3) := (World.ownsRow.cellAt HI7.out 1 (by simp)).trans rfl
  have hs2 := (hb8.cell (p := ⟨g, 1, none⟩) (World.ownsRow.lt HI7.out g rfl).2).trans hs1
  have hb8s := hb8.size
  clear hb8
  have HS2 := Lib.hid hs2
  have HGL := Lib.hid (Nat.lt_of_lt_of_le (World.ownsRow.lt HI7.out g rfl).2 (show w7.heap.size ≤ w8.heap.size from hb8s))
  clear hs1 hs2 hb8s
  go_wp2_with fail
  refine (l_end H8.out ((Prt.mk b6 3 [] (.slice none 0 0)).more y mv6) [(P0 b).more x mv] rfl (by simp)).mono ?_
  rintro e w9 ⟨rfl, hb9⟩
  rw [show endOf (((Prt.mk b6 3 [] (.slice none 0 0)).more y mv6).base) (((Prt.mk b6 3 [] (.slice none 0 0)).more y mv6).xs) = 4 from by show endOf 3 [y] = 4; simp [endOf, HYC.out]]
  have H9 := Lib.hid (H8.out.more hb9)
  have hs3 := (hb9.cell (p := ⟨g, 1, none⟩) HGL.out).trans HS2.out
  clear hb9
  go_wp2
  go_ret
  exact ⟨rfl, H9.out.below.below (Nat.le_refl _) (fun _ h => h.elim)⟩
end Go.Proofs.YtcioejacijkbcaaGreatDoor.Lg
/- SeglogNobody returns true, whatever its arguments are. No condition. -/
namespace Go.Proofs.YtcioejacijkbcaaGreatDoor.Lg
open Go.RowKit Go.Maps Go.ChangeMaps Go.WideMaps Go.Proofs.YtcioejacijkbcaaGreatDoor.Vd Go.Proofs.YtcioejacijkbcaaGreatDoor.Rc Go.Proofs.YtcioejacijkbcaaGreatDoor.Rg Go.Proofs.YtcioejacijkbcaaGreatDoor.Sg
set_option linter.unusedVariables false
set_option maxRecDepth 100000 in
theorem open_nil (w : World) : Calls Tryz.prog 11 #[.pointer none, .int .i64 9] w fun e w' => e = .returned (.tuple #[.pointer none, .int .i64 1]) ∧ w = w' := by
  go_enter Tryz.func11, Tryz.ntmps11
  go_wp2_with fail
  refine (Vd.read_nobody w none _ _ _ (fun a ha => by cases ha)).mono ?_
  rintro e w1 ⟨rfl, rfl⟩
  go_wp2
  go_ret2
  exact ⟨rfl, rfl⟩
theorem Nobody.below {w w' : World} {p : Option Addr} (h : Nobody w p) (hb : Below w.heap.size w w') : Nobody w' p := by
  intro a ha
  obtain ⟨b, rfl, hc⟩ := h a ha
  exact ⟨b, rfl, (hb.cell (p := ⟨b, 2, none⟩) (by
    unfold World.cell? at hc
    rcases Nat.lt_or_ge b w.heap.size with h | h
    · exact h
    · rw [Array.getElem?_eq_none h] at hc; cases hc)).trans hc⟩
set_option maxRecDepth 100000 in
set_option maxHeartbeats 2000000 in
theorem walk_nobody (n : Int) (_ : (Lit.int .i64 n).wf = true) (s : ByteArray) (_ : s.size ≤ 140737488351232) (w : World) (hT : Tab w) :
    Calls Tryz.prog 4 #[.int .i64 n, .string s] w fun e w' => e = .returned (.bool true) ∧ Below w.heap.size w w' := by
  go_enter Tryz.func4, Tryz.ntmps4
  go_wp2_with fail
  refine (open_nil w).mono ?_
  rintro e w0 ⟨rfl, rfl⟩
  have HB := Lib.hid (((Below.refl w.heap.size w).alloc (Nat.le_refl _) (.cells #[.pointer none, .int .i64 0, .slice none 0 0] 42)).alloc (Nat.le_of_lt (by simp)) (.cells #[.pointer none, .pointer (some ⟨w.heap.size, 0, none⟩)] 24))
  have e0 : (w.alloc (.cells #[.pointer none, .int .i64 0, .slice none 0 0] 42)).heap.size = w.heap.size + 1 := by show (w.heap.push _).size = _; simp
  have HA := Lib.hid (heap_alloc_new (w.alloc (.cells #[.pointer none, .int .i64 0, .slice none 0 0] 42)) (.cells #[.pointer none, .pointer (some ⟨w.heap.size, 0, none⟩)] 24))
  rw [e0] at HA
  have HC := Lib.hid (Rc.alloc_old (.cells #[.pointer none, .pointer (some ⟨w.heap.size, 0, none⟩)] 24) (heap_alloc_new w (.cells #[.pointer none, .int .i64 0, .slice none 0 0] 42)))
  clear e0
  go_wp2_with fail
  generalize (w.alloc (.cells #[.pointer none, .int .i64 0, .slice none 0 0] 42)).alloc (.cells #[.pointer none, .pointer (some ⟨w.heap.size, 0, none⟩)] 24) = W at HB HA HC ⊢
  go_loopw [8] (fun i wr => ∃ k : Nat, k ≤ 2 ∧ i = .int .i64 k ∧ Below W.heap.size W wr) (fun i _ => 2 - (intOf i).toNat)
  case atStart => exact ⟨0, by omega, rfl, Below.refl _ _⟩
  case round =>
    obtain ⟨k, hk, rfl, hW⟩ := hrel
    have HW := Lib.hid hW
    obtain ⟨h2, h3⟩ := cells2 ((hW.block _ (Vd.lt_of_heap HA.out)).trans HA.out)
    have hN0 : Nobody wr none := by intro a ha; cases ha
    have hN1 : Nobody wr (some ⟨w.heap.size, 0, none⟩) := by intro a ha; cases ha; exact ⟨_, rfl, (cells3 ((hW.block _ (Vd.lt_of_heap HC.out)).trans HC.out)).2.2⟩
    have H0 := Lib.hid hN0
    have H1 := Lib.hid hN1
    clear hW hN0 hN1
    rcases (show k = 0 ∨ k = 1 ∨ k = 2 from by omega) with rfl | rfl | rfl
    · have HN := H0
      go_wp2_with (first | (go_at_call 12; refine (Lg.batch_nobody _ _ _ HN.out).mono ?_; rintro e w' ⟨rfl, rfl⟩) | (go_at_call 13; refine (Lg.batches_nobody _ _ _ HN.out).mono ?_; rintro e w' ⟨rfl, rfl⟩) | (go_at_call 14; refine (Lg.read_nobody _ _ _ _ _ HN.out).mono ?_; rintro e w' ⟨rfl, rfl⟩) | (go_at_call 9; refine (Lg.append_nobody _ _ _ HN.out).mono ?_; rintro e w' ⟨rfl, rfl⟩) | (go_at_call 15; refine (Lg.sync_nobody _ _ HN.out).mono ?_; rintro e w' ⟨rfl, rfl⟩) | (go_at_call 16; refine (Lg.cut_nobody _ _ _ HN.out).mono ?_; rintro e w' ⟨rfl, rfl⟩) | (go_at_call 8; refine (Lg.end_nobody _ _ HN.out).mono ?_; rintro e w' ⟨rfl, rfl⟩) | (go_at_call 10; refine (Lg.segments_nobody _ _ HN.out).mono ?_; rintro e w' ⟨rfl, rfl⟩) | (go_at_call 17; refine (Lg.swap_nobody _ _ _ _ HN.out).mono ?_; rintro e w9 ⟨rfl, hb9⟩))
      go_roundw
      case rel => exact ⟨1, by omega, rfl, HW.out.trans (hb9.mono HW.out.size)⟩
      case measure => simp [intOf]
    · have HN := H1
      go_wp2_with (first | (go_at_call 12; refine (Lg.batch_nobody _ _ _ HN.out).mono ?_; rintro e w' ⟨rfl, rfl⟩) | (go_at_call 13; refine (Lg.batches_nobody _ _ _ HN.out).mono ?_; rintro e w' ⟨rfl, rfl⟩) | (go_at_call 14; refine (Lg.read_nobody _ _ _ _ _ HN.out).mono ?_; rintro e w' ⟨rfl, rfl⟩) | (go_at_call 9; refine (Lg.append_nobody _ _ _ HN.out).mono ?_; rintro e w' ⟨rfl, rfl⟩) | (go_at_call 15; refine (Lg.sync_nobody _ _ HN.out).mono ?_; rintro e w' ⟨rfl, rfl⟩) | (go_at_call 16; refine (Lg.cut_nobody _ _ _ HN.out).mono ?_; rintro e w' ⟨rfl, rfl⟩) | (go_at_call 8; refine (Lg.end_nobody _ _ HN.out).mono ?_; rintro e w' ⟨rfl, rfl⟩) | (go_at_call 10; refine (Lg.segments_nobody _ _ HN.out).mono ?_; rintro e w' ⟨rfl, rfl⟩) | (go_at_call 17; refine (Lg.swap_nobody _ _ _ _ HN.out).mono ?_; rintro e w9 ⟨rfl, hb9⟩))
      go_roundw
      case rel => exact ⟨2, by omega, rfl, HW.out.trans (hb9.mono HW.out.size)⟩
      case measure => simp [intOf]
    · go_wp2_with (go_at_call 6; refine (Lg.awake _ (hT.below (HB.out.trans (HW.out.mono HB.out.size)))).mono ?_; rintro e w' ⟨rfl, hbw⟩)
      go_ret
      exact ⟨rfl, HB.out.trans ((HW.out.trans (hbw.mono HW.out.size)).mono HB.out.size)⟩
end Go.Proofs.YtcioejacijkbcaaGreatDoor.Lg
