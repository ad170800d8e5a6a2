/- batch: Head. -/
import Derived.Test.YtcioejacijkbcaaGreatDoorBaO
namespace Go.Proofs.YtcioejacijkbcaaGreatDoor.Ba
open Go.RowKit Go.Maps Go.ChangeMaps Go.WideMaps Go.Proofs.YtcioejacijkbcaaGreatDoor.Su Go.Proofs.YtcioejacijkbcaaGreatDoor.Bt Go.Proofs.YtcioejacijkbcaaGreatDoor.Sb Go.Proofs.YtcioejacijkbcaaGreatDoor.Rc Go.Proofs.YtcioejacijkbcaaGreatDoor.Rg
set_option linter.unusedVariables false
set_option linter.unusedSimpArgs false
/-- the number of so many bytes at a place; -1: it is too great -/
def nv (l : List UInt8) (a k : Nat) : Int := if num ((l.drop a).take k) < 9223372036854775808 then num ((l.drop a).take k) else -1
theorem nv_small (l : List UInt8) (a k : Nat) (hk : k ≤ 4) : 0 ≤ nv l a k ∧ nv l a k < 4294967296 ∧ nv l a k = num ((l.drop a).take k) := by
  have h := num_lt ((l.drop a).take k)
  have h2 : 256 ^ ((l.drop a).take k).length ≤ 256 ^ 4 := Nat.pow_le_pow_right (by decide) (by rw [List.length_take]; omega)
  have h3 : num ((l.drop a).take k) < 4294967296 := Nat.lt_of_lt_of_le h h2
  unfold nv
  rw [if_pos (by omega)]
  omega
theorem number_any (W : World) (s : ByteArray) (A K : Int) (a k : Nat) (hA : A = a) (hK : K = k) (h1 : 1 ≤ k) (h8 : k ≤ 8) (hs : a + k ≤ s.size) (hsz : s.size ≤ 1099511627776) :
    Calls Tryz.prog 56 #[.string s, .int .i64 A, .int .i64 K] W fun e w' => e = .returned (.int .i64 (nv s.data.toList a k)) ∧ W = w' := by
  rw [hA, hK]
  unfold nv
  by_cases hv : num ((s.data.toList.drop a).take k) < 9223372036854775808
  · rw [if_pos hv]; exact bnumber W s a k h1 h8 hs hsz hv
  · rw [if_neg hv]; exact bnumber_over W s a k h1 h8 hs hsz hv
def zb : Value := .agg #[.int .i64 0, .int .i64 0, .int .i64 0, .int .i64 0, .int .i64 0, .slice none 0 0]
theorem byte_at (t : ByteArray) (i : Nat) (h : i < t.size) : t[i] = t.data.toList.getD i 0 := by
  have h' : i < t.data.size := h
  rw [List.getD_eq_getElem?_getD, Array.getElem?_toList, Array.getElem?_eq_getElem h']
  rfl
theorem toList_data (s : ByteArray) : s.toList = s.data.toList := ByteArray.toList_eq ..
set_option maxRecDepth 100000 in
set_option maxHeartbeats 4000000 in
theorem head_few (s : ByteArray) (w : World) (h : s.size < 10) :
    Calls Tryz.prog 44 #[.string s] w fun e w' => e = .returned (.tuple #[zb, .int .i64 0, .int .i64 5]) ∧ Below w.heap.size w w' := by
  have h' : (s.size : Int) < 10 := by omega
  go_enter Tryz.func44, Tryz.ntmps44
  go_wp2
  refine bodyPost_ret (v := .tuple #[zb, .int .i64 0, .int .i64 5]) (by simp [results, Tryz.results44, go_sem, zb]) rfl ⟨rfl, ((Below.refl _ _).alloc (Nat.le_refl _) _).alloc (le_alloc (Nat.le_refl _) _) _⟩
set_option maxRecDepth 100000 in
set_option maxHeartbeats 4000000 in
theorem head_front (s : ByteArray) (w : World) (h : 10 ≤ s.size) (hsz : s.size ≤ 1099511627776) (n : Int) (hn : nv s.data.toList 2 4 = n) (hb : ¬ (s.extract 0 2).toList = [80, 66] ∨ n < 29 ∨ 262144 < n) :
    Calls Tryz.prog 44 #[.string s] w fun e w' => e = .returned (.tuple #[zb, .int .i64 0, .int .i64 100]) ∧ Below w.heap.size w w' := by
  have HN := Lib.hid hn
  clear hn
  have h' : ¬ (s.size : Int) < 10 := by omega
  have h2 : (2 : Int) ≤ (s.size : Int) := by omega
  go_enter Tryz.func44, Tryz.ntmps44
  go_wp2_with fail
  refine (number_any _ s 2 4 2 4 rfl rfl (by decide) (by decide) (by omega) hsz).mono ?_
  rintro e w1 ⟨rfl, rfl⟩
  rw [HN.out]
  by_cases hm : (s.extract 0 2).toList = [80, 66]
  · have hb' : n < 29 ∨ 262144 < n := hb.resolve_left (fun h => h hm)
    clear hb
    rcases hb' with hb | hb
    · go_wp2
      refine bodyPost_ret (v := .tuple #[zb, .int .i64 0, .int .i64 100]) (by simp [results, Tryz.results44, go_sem, zb]) rfl ⟨rfl, ((Below.refl _ _).alloc (Nat.le_refl _) _).alloc (le_alloc (Nat.le_refl _) _) _⟩
    · have hb0 : ¬ n < 29 := by omega
      go_wp2
      refine bodyPost_ret (v := .tuple #[zb, .int .i64 0, .int .i64 100]) (by simp [results, Tryz.results44, go_sem, zb]) rfl ⟨rfl, ((Below.refl _ _).alloc (Nat.le_refl _) _).alloc (le_alloc (Nat.le_refl _) _) _⟩
  · clear hb
    go_wp2
    refine bodyPost_ret (v := .tuple #[zb, .int .i64 0, .int .i64 100]) (by simp [results, Tryz.results44, go_sem, zb]) rfl ⟨rfl, ((Below.refl _ _).alloc (Nat.le_refl _) _).alloc (le_alloc (Nat.le_refl _) _) _⟩
set_option maxRecDepth 100000 in
set_option maxHeartbeats 4000000 in
theorem head_short (s : ByteArray) (w : World) (h : 10 ≤ s.size) (hsz : s.size ≤ 1099511627776) (n : Int) (hn : nv s.data.toList 2 4 = n) (hm : (s.extract 0 2).toList = [80, 66]) (h29 : 29 ≤ n) (hmax : n ≤ 262144) (hl : (s.size : Int) < 10 + n) :
    Calls Tryz.prog 44 #[.string s] w fun e w' => e = .returned (.tuple #[zb, .int .i64 0, .int .i64 5]) ∧ Below w.heap.size w w' := by
  have HN := Lib.hid hn
  clear hn
  have h' : ¬ (s.size : Int) < 10 := by omega
  have h2 : (2 : Int) ≤ (s.size : Int) := by omega
  go_enter Tryz.func44, Tryz.ntmps44
  go_wp2_with fail
  refine (number_any _ s 2 4 2 4 rfl rfl (by decide) (by decide) (by omega) hsz).mono ?_
  rintro e w1 ⟨rfl, rfl⟩
  rw [HN.out]
  have h29' : ¬ n < 29 := by omega
  have hmax' : ¬ 262144 < n := by omega
  go_wp2
  refine bodyPost_ret (v := .tuple #[zb, .int .i64 0, .int .i64 5]) (by simp [results, Tryz.results44, go_sem, zb]) rfl ⟨rfl, ((Below.refl _ _).alloc (Nat.le_refl _) _).alloc (le_alloc (Nat.le_refl _) _) _⟩
set_option maxRecDepth 100000 in
set_option maxHeartbeats 4000000 in
theorem head_crc (s : ByteArray) (w : World) (h : 10 ≤ s.size) (hsz : s.size ≤ 1099511627776) (n : Int) (hn : nv s.data.toList 2 4 = n) (hm : (s.extract 0 2).toList = [80, 66]) (h29 : 29 ≤ n) (hmax : n ≤ 262144) (hl : 10 + n ≤ (s.size : Int)) (t : ByteArray) (ht : s.extract 10 (10 + n).toNat = t) (f0 f1 f2 f3 f4 cs cc : Int) (hf0 : (nv t.data.toList 0 8) = f0) (hf1 : (nv t.data.toList 8 2) = f1) (hf2 : (nv t.data.toList 10 4) = f2) (hf3 : (nv t.data.toList 14 4) = f3) (hf4 : (nv t.data.toList 18 4) = f4) (hcs : nv s.data.toList 6 4 = cs) (hcc : (crc t.data.toList : Int) = cc) (hne : (cs != cc) = true) :
    Calls Tryz.prog 44 #[.string s] w fun e w' => e = .returned (.tuple #[zb, .int .i64 0, .int .i64 100]) ∧ Below w.heap.size w w' := by
  have htn : t.size = n.toNat := by rw [← ht, ByteArray.size_extract]; omega
  have htb : t.size ≤ 1099511627776 := by omega
  have HN := Lib.hid hn
  clear hn
  have HT := Lib.hid ht
  clear ht
  have HF0 := Lib.hid hf0
  clear hf0
  have HF1 := Lib.hid hf1
  clear hf1
  have HF2 := Lib.hid hf2
  clear hf2
  have HF3 := Lib.hid hf3
  clear hf3
  have HF4 := Lib.hid hf4
  clear hf4
  have HCS := Lib.hid hcs
  clear hcs
  have HCC := Lib.hid hcc
  clear hcc
  have HTN := Lib.hid htn
  clear htn
  have h' : ¬ (s.size : Int) < 10 := by omega
  have h2 : (2 : Int) ≤ (s.size : Int) := by omega
  go_enter Tryz.func44, Tryz.ntmps44
  go_wp2_with fail
  refine (number_any _ s 2 4 2 4 rfl rfl (by decide) (by decide) (by omega) hsz).mono ?_
  rintro e w1 ⟨rfl, rfl⟩
  rw [HN.out]
  have h29' : ¬ n < 29 := by omega
  have hmax' : ¬ 262144 < n := by omega
  have hl' : ¬ (s.size : Int) < 10 + n := by omega
  go_wp2_with fail
  rw [HT.out]
  refine (number_any _ t 0 8 0 8 rfl rfl (by decide) (by decide) (by have := HTN.out; omega) htb).mono ?_
  rintro e w1 ⟨rfl, rfl⟩
  rw [HF0.out]
  go_wp2_with fail
  refine (number_any _ t 8 2 8 2 rfl rfl (by decide) (by decide) (by have := HTN.out; omega) htb).mono ?_
  rintro e w1 ⟨rfl, rfl⟩
  rw [HF1.out]
  go_wp2_with fail
  refine (number_any _ t 10 4 10 4 rfl rfl (by decide) (by decide) (by have := HTN.out; omega) htb).mono ?_
  rintro e w1 ⟨rfl, rfl⟩
  rw [HF2.out]
  go_wp2_with fail
  refine (number_any _ t 14 4 14 4 rfl rfl (by decide) (by decide) (by have := HTN.out; omega) htb).mono ?_
  rintro e w1 ⟨rfl, rfl⟩
  rw [HF3.out]
  go_wp2_with fail
  refine (number_any _ t 18 4 18 4 rfl rfl (by decide) (by decide) (by have := HTN.out; omega) htb).mono ?_
  rintro e w1 ⟨rfl, rfl⟩
  rw [HF4.out]
  go_wp2_with fail
  have hbx := heap_alloc_last ((w.alloc (.cells #[.int .i64 0, .int .i64 0, .int .i64 0, .int .i64 0, .int .i64 0, .slice none 0 0] 59)).alloc (.cells #[.int .i64 0, .int .i64 0, .int .i64 0, .int .i64 0, .int .i64 0, .slice none 0 0] 59)) (.cells #[.int .i64 f0, .int .i64 f1, .int .i64 f2, .int .i64 f3, .int .i64 f4, .slice none 0 0] 59)
  rw [show ((w.alloc (.cells #[.int .i64 0, .int .i64 0, .int .i64 0, .int .i64 0, .int .i64 0, .slice none 0 0] 59)).alloc (.cells #[.int .i64 0, .int .i64 0, .int .i64 0, .int .i64 0, .int .i64 0, .slice none 0 0] 59)).heap.size = w.heap.size + 1 + 1 from by show ((w.heap.push _).push _).size = _; simp] at hbx
  obtain ⟨c0, c1, c2, c3, c4, c5⟩ := cells6 hbx
  have hb3 := Below.refl (w.heap.size + 3) (((w.alloc (.cells #[.int .i64 0, .int .i64 0, .int .i64 0, .int .i64 0, .int .i64 0, .slice none 0 0] 59)).alloc (.cells #[.int .i64 0, .int .i64 0, .int .i64 0, .int .i64 0, .int .i64 0, .slice none 0 0] 59)).alloc (.cells #[.int .i64 f0, .int .i64 f1, .int .i64 f2, .int .i64 f3, .int .i64 f4, .slice none 0 0] 59))
  have htn22 : (22 : Int) < (t.size : Int) := by have := HTN.out; omega
  refine wp_region_seqw (S := (fun w' => w'.heap[w.heap.size + 1 + 1]? = some (.cells #[.int .i64 f0, .int .i64 f1, .int .i64 f2, .int .i64 f3, .int .i64 f4, .slice none 0 0] 59 (0, 0)) ∧ w'.cell? ⟨w.heap.size + 1 + 1, 0, none⟩ = some (.int .i64 f0) ∧ w'.cell? ⟨w.heap.size + 1 + 1, 1, none⟩ = some (.int .i64 f1) ∧ w'.cell? ⟨w.heap.size + 1 + 1, 2, none⟩ = some (.int .i64 f2) ∧ w'.cell? ⟨w.heap.size + 1 + 1, 3, none⟩ = some (.int .i64 f3) ∧ w'.cell? ⟨w.heap.size + 1 + 1, 4, none⟩ = some (.int .i64 f4) ∧ w'.cell? ⟨w.heap.size + 1 + 1, 5, none⟩ = some (.slice none 0 0) ∧ Below (w.heap.size + 3) (((w.alloc (.cells #[.int .i64 0, .int .i64 0, .int .i64 0, .int .i64 0, .int .i64 0, .slice none 0 0] 59)).alloc (.cells #[.int .i64 0, .int .i64 0, .int .i64 0, .int .i64 0, .int .i64 0, .slice none 0 0] 59)).alloc (.cells #[.int .i64 f0, .int .i64 f1, .int .i64 f2, .int .i64 f3, .int .i64 f4, .slice none 0 0] 59)) w')) (by kernel_rfl) (by kernel_rfl) ⟨hbx, c0, c1, c2, c3, c4, c5, hb3.drew⟩ ?_
  clear c0 c1 c2 c3 c4 c5 hbx hb3
  refine Seqw.light (v := ?_) (by kernel_rfl) ?_ ?_
  rotate_left 1
  focus (intro w hSw; (try dsimp only at hSw); go_simp; try with_reducible rfl)
  try simp only [Act.put, List.setIfInBounds_toArray, List.set_cons_zero, List.set_cons_succ]
  refine Seqw.call (.int .i64 cs) (by kernel_rfl) (by kernel_rfl) (fun w hSw => by (try dsimp only at hSw); go_simp; exact ⟨rfl, rfl⟩) ?_ ?_
  · intro w3 hSw
    refine (number_any w3 s 6 4 6 4 rfl rfl (by decide) (by decide) (by omega) hsz).mono ?_
    rintro e w4 ⟨rfl, rfl⟩
    exact ⟨by rw [HCS.out], hSw⟩
  try simp only [Act.put, List.setIfInBounds_toArray, List.set_cons_zero, List.set_cons_succ]
  refine Seqw.light (v := ?_) (by kernel_rfl) ?_ ?_
  rotate_left 1
  focus (intro w hSw; (try dsimp only at hSw); go_simp; try with_reducible rfl)
  try simp only [Act.put, List.setIfInBounds_toArray, List.set_cons_zero, List.set_cons_succ]
  refine Seqw.call (.int .i64 cc) (by kernel_rfl) (by kernel_rfl) (fun w hSw => by (try dsimp only at hSw); go_simp; exact ⟨rfl, rfl⟩) ?_ ?_
  · intro w3 hSw
    refine (Crc_calls w3 t htb).mono ?_
    rintro e w4 ⟨rfl, hb4⟩
    obtain ⟨d0, _, _, _, _, _, _, d1⟩ := hSw
    have hsz4 := d1.size
    have d3 := (hb4.block _ (lt_of_heap d0)).trans d0
    obtain ⟨c0, c1, c2, c3, c4, c5⟩ := cells6 d3
    exact ⟨by rw [HCC.out], d3, c0, c1, c2, c3, c4, c5, d1.trans (hb4.mono (by simpa using hsz4))⟩
  try simp only [Act.put, List.setIfInBounds_toArray, List.set_cons_zero, List.set_cons_succ]
  refine Seqw.light (v := ?_) (by kernel_rfl) ?_ ?_
  rotate_left 1
  focus (intro w hSw; (try dsimp only at hSw); go_simp; try with_reducible rfl)
  try simp only [Act.put, List.setIfInBounds_toArray, List.set_cons_zero, List.set_cons_succ]
  refine Seqw.light (v := ?_) (by kernel_rfl) ?_ ?_
  rotate_left 1
  focus (intro w hSw; (try dsimp only at hSw); go_simp; try with_reducible rfl)
  try simp only [Act.put, List.setIfInBounds_toArray, List.set_cons_zero, List.set_cons_succ]
  refine Seqw.skip (by kernel_rfl) ?_
  try simp only [Act.put, List.setIfInBounds_toArray, List.set_cons_zero, List.set_cons_succ]
  refine Seqw.skip (by kernel_rfl) ?_
  try simp only [Act.put, List.setIfInBounds_toArray, List.set_cons_zero, List.set_cons_succ]
  refine Seqw.skip (by kernel_rfl) ?_
  try simp only [Act.put, List.setIfInBounds_toArray, List.set_cons_zero, List.set_cons_succ]
  refine Seqw.light (v := ?_) (by kernel_rfl) ?_ ?_
  rotate_left 1
  focus (intro w hSw; (try dsimp only at hSw); go_simp; try with_reducible rfl)
  try simp only [Act.put, List.setIfInBounds_toArray, List.set_cons_zero, List.set_cons_succ]
  refine Seqw.light (v := ?_) (by kernel_rfl) ?_ ?_
  rotate_left 1
  focus (intro w hSw; (try dsimp only at hSw); go_simp; try with_reducible rfl)
  try simp only [Act.put, List.setIfInBounds_toArray, List.set_cons_zero, List.set_cons_succ]
  refine Seqw.skip (by kernel_rfl) ?_
  try simp only [Act.put, List.setIfInBounds_toArray, List.set_cons_zero, List.set_cons_succ]
  refine Seqw.skip (by kernel_rfl) ?_
  try simp only [Act.put, List.setIfInBounds_toArray, List.set_cons_zero, List.set_cons_succ]
  refine Seqw.skip (by kernel_rfl) ?_
  try simp only [Act.put, List.setIfInBounds_toArray, List.set_cons_zero, List.set_cons_succ]
  refine Seqw.skip (by kernel_rfl) ?_
  try simp only [Act.put, List.setIfInBounds_toArray, List.set_cons_zero, List.set_cons_succ]
  refine Seqw.skip (by kernel_rfl) ?_
  try simp only [Act.put, List.setIfInBounds_toArray, List.set_cons_zero, List.set_cons_succ]
  refine Seqw.skip (by kernel_rfl) ?_
  try simp only [Act.put, List.setIfInBounds_toArray, List.set_cons_zero, List.set_cons_succ]
  refine Seqw.light (v := ?_) (by kernel_rfl) ?_ ?_
  rotate_left 1
  focus (intro w hSw; (try dsimp only at hSw); go_simp; try with_reducible rfl)
  try simp only [Act.put, List.setIfInBounds_toArray, List.set_cons_zero, List.set_cons_succ]
  refine Seqw.nil fun w3 hS3 => ?_
  obtain ⟨d0, c0, c1, c2, c3, c4, c5, hb4⟩ := hS3
  have hz0 := hb4.block w.heap.size (by omega)
  have hz1 := hb4.block (w.heap.size + 1) (by omega)
  rw [alloc_old _ (alloc_old _ (heap_alloc_last w _))] at hz0
  rw [alloc_old _ (show ((w.alloc _).alloc _).heap[w.heap.size + 1]? = _ from by have := heap_alloc_last (w.alloc (.cells #[.int .i64 0, .int .i64 0, .int .i64 0, .int .i64 0, .int .i64 0, .slice none 0 0] 59)) (.cells #[.int .i64 0, .int .i64 0, .int .i64 0, .int .i64 0, .int .i64 0, .slice none 0 0] 59); rwa [show (w.alloc (.cells #[.int .i64 0, .int .i64 0, .int .i64 0, .int .i64 0, .int .i64 0, .slice none 0 0] 59)).heap.size = w.heap.size + 1 from by show (w.heap.push _).size = _; simp] at this)] at hz1
  obtain ⟨z0, z1, z2, z3, z4, z5⟩ := cells6 hz0
  obtain ⟨y0, y1, y2, y3, y4, y5⟩ := cells6 hz1
  have hfz : ∀ j, w3.frozen? ⟨w.heap.size, j, none⟩ = false := fun j => Lib.frozen_of_heap hz0 j
  have hwb := (((Below.refl w.heap.size w).alloc (Nat.le_refl _) (.cells #[.int .i64 0, .int .i64 0, .int .i64 0, .int .i64 0, .int .i64 0, .slice none 0 0] 59)).alloc (le_alloc (Nat.le_refl _) _) (.cells #[.int .i64 0, .int .i64 0, .int .i64 0, .int .i64 0, .int .i64 0, .slice none 0 0] 59)).alloc (le_alloc (le_alloc (Nat.le_refl _) _) _) (.cells #[.int .i64 f0, .int .i64 f1, .int .i64 f2, .int .i64 f3, .int .i64 f4, .slice none 0 0] 59)
  have HWB := Lib.hid (hwb.trans (hb4.mono (by omega)))
  clear hb4 hz0 hz1 hwb d0
  go_wp2
  refine bodyPost_ret (v := .tuple #[zb, .int .i64 0, .int .i64 100]) (by simp [results, Tryz.results44, go_sem, zb, *]) rfl ⟨rfl, ?_⟩
  exact (((((HWB.out.setCell (p := ⟨w.heap.size, 0, none⟩) (Nat.le_refl _) _).setCell (p := ⟨w.heap.size, 1, none⟩) (Nat.le_refl _) _).setCell (p := ⟨w.heap.size, 2, none⟩) (Nat.le_refl _) _).setCell (p := ⟨w.heap.size, 3, none⟩) (Nat.le_refl _) _).setCell (p := ⟨w.heap.size, 4, none⟩) (Nat.le_refl _) _).setCell (p := ⟨w.heap.size, 5, none⟩) (Nat.le_refl _) _
set_option maxRecDepth 100000 in
set_option maxHeartbeats 4000000 in
theorem head_headed (s : ByteArray) (w : World) (h : 10 ≤ s.size) (hsz : s.size ≤ 1099511627776) (n : Int) (hn : nv s.data.toList 2 4 = n) (hm : (s.extract 0 2).toList = [80, 66]) (h29 : 29 ≤ n) (hmax : n ≤ 262144) (hl : 10 + n ≤ (s.size : Int)) (t : ByteArray) (ht : s.extract 10 (10 + n).toNat = t) (f0 f1 f2 f3 f4 cs cc : Int) (hf0 : (nv t.data.toList 0 8) = f0) (hf1 : (nv t.data.toList 8 2) = f1) (hf2 : (nv t.data.toList 10 4) = f2) (hf3 : (nv t.data.toList 14 4) = f3) (hf4 : (nv t.data.toList 18 4) = f4) (hcs : nv s.data.toList 6 4 = cs) (hcc : (crc t.data.toList : Int) = cc) (hne : (cs != cc) = false) (hhd : headed f0 f1 f2 f3 f4 = false) :
    Calls Tryz.prog 44 #[.string s] w fun e w' => e = .returned (.tuple #[zb, .int .i64 0, .int .i64 100]) ∧ Below w.heap.size w w' := by
  have htn : t.size = n.toNat := by rw [← ht, ByteArray.size_extract]; omega
  have htb : t.size ≤ 1099511627776 := by omega
  have HN := Lib.hid hn
  clear hn
  have HT := Lib.hid ht
  clear ht
  have HF0 := Lib.hid hf0
  clear hf0
  have HF1 := Lib.hid hf1
  clear hf1
  have HF2 := Lib.hid hf2
  clear hf2
  have HF3 := Lib.hid hf3
  clear hf3
  have HF4 := Lib.hid hf4
  clear hf4
  have HCS := Lib.hid hcs
  clear hcs
  have HCC := Lib.hid hcc
  clear hcc
  have HTN := Lib.hid htn
  clear htn
  have HHD := Lib.hid hhd
  clear hhd
  have h' : ¬ (s.size : Int) < 10 := by omega
  have h2 : (2 : Int) ≤ (s.size : Int) := by omega
  go_enter Tryz.func44, Tryz.ntmps44
  go_wp2_with fail
  refine (number_any _ s 2 4 2 4 rfl rfl (by decide) (by decide) (by omega) hsz).mono ?_
  rintro e w1 ⟨rfl, rfl⟩
  rw [HN.out]
  have h29' : ¬ n < 29 := by omega
  have hmax' : ¬ 262144 < n := by omega
  have hl' : ¬ (s.size : Int) < 10 + n := by omega
  go_wp2_with fail
  rw [HT.out]
  refine (number_any _ t 0 8 0 8 rfl rfl (by decide) (by decide) (by have := HTN.out; omega) htb).mono ?_
  rintro e w1 ⟨rfl, rfl⟩
  rw [HF0.out]
  go_wp2_with fail
  refine (number_any _ t 8 2 8 2 rfl rfl (by decide) (by decide) (by have := HTN.out; omega) htb).mono ?_
  rintro e w1 ⟨rfl, rfl⟩
  rw [HF1.out]
  go_wp2_with fail
  refine (number_any _ t 10 4 10 4 rfl rfl (by decide) (by decide) (by have := HTN.out; omega) htb).mono ?_
  rintro e w1 ⟨rfl, rfl⟩
  rw [HF2.out]
  go_wp2_with fail
  refine (number_any _ t 14 4 14 4 rfl rfl (by decide) (by decide) (by have := HTN.out; omega) htb).mono ?_
  rintro e w1 ⟨rfl, rfl⟩
  rw [HF3.out]
  go_wp2_with fail
  refine (number_any _ t 18 4 18 4 rfl rfl (by decide) (by decide) (by have := HTN.out; omega) htb).mono ?_
  rintro e w1 ⟨rfl, rfl⟩
  rw [HF4.out]
  go_wp2_with fail
  have hbx := heap_alloc_last ((w.alloc (.cells #[.int .i64 0, .int .i64 0, .int .i64 0, .int .i64 0, .int .i64 0, .slice none 0 0] 59)).alloc (.cells #[.int .i64 0, .int .i64 0, .int .i64 0, .int .i64 0, .int .i64 0, .slice none 0 0] 59)) (.cells #[.int .i64 f0, .int .i64 f1, .int .i64 f2, .int .i64 f3, .int .i64 f4, .slice none 0 0] 59)
  rw [show ((w.alloc (.cells #[.int .i64 0, .int .i64 0, .int .i64 0, .int .i64 0, .int .i64 0, .slice none 0 0] 59)).alloc (.cells #[.int .i64 0, .int .i64 0, .int .i64 0, .int .i64 0, .int .i64 0, .slice none 0 0] 59)).heap.size = w.heap.size + 1 + 1 from by show ((w.heap.push _).push _).size = _; simp] at hbx
  obtain ⟨c0, c1, c2, c3, c4, c5⟩ := cells6 hbx
  have hb3 := Below.refl (w.heap.size + 3) (((w.alloc (.cells #[.int .i64 0, .int .i64 0, .int .i64 0, .int .i64 0, .int .i64 0, .slice none 0 0] 59)).alloc (.cells #[.int .i64 0, .int .i64 0, .int .i64 0, .int .i64 0, .int .i64 0, .slice none 0 0] 59)).alloc (.cells #[.int .i64 f0, .int .i64 f1, .int .i64 f2, .int .i64 f3, .int .i64 f4, .slice none 0 0] 59))
  have htn22 : (22 : Int) < (t.size : Int) := by have := HTN.out; omega
  refine wp_region_seqw (S := (fun w' => w'.heap[w.heap.size + 1 + 1]? = some (.cells #[.int .i64 f0, .int .i64 f1, .int .i64 f2, .int .i64 f3, .int .i64 f4, .slice none 0 0] 59 (0, 0)) ∧ w'.cell? ⟨w.heap.size + 1 + 1, 0, none⟩ = some (.int .i64 f0) ∧ w'.cell? ⟨w.heap.size + 1 + 1, 1, none⟩ = some (.int .i64 f1) ∧ w'.cell? ⟨w.heap.size + 1 + 1, 2, none⟩ = some (.int .i64 f2) ∧ w'.cell? ⟨w.heap.size + 1 + 1, 3, none⟩ = some (.int .i64 f3) ∧ w'.cell? ⟨w.heap.size + 1 + 1, 4, none⟩ = some (.int .i64 f4) ∧ w'.cell? ⟨w.heap.size + 1 + 1, 5, none⟩ = some (.slice none 0 0) ∧ Below (w.heap.size + 3) (((w.alloc (.cells #[.int .i64 0, .int .i64 0, .int .i64 0, .int .i64 0, .int .i64 0, .slice none 0 0] 59)).alloc (.cells #[.int .i64 0, .int .i64 0, .int .i64 0, .int .i64 0, .int .i64 0, .slice none 0 0] 59)).alloc (.cells #[.int .i64 f0, .int .i64 f1, .int .i64 f2, .int .i64 f3, .int .i64 f4, .slice none 0 0] 59)) w')) (by kernel_rfl) (by kernel_rfl) ⟨hbx, c0, c1, c2, c3, c4, c5, hb3.drew⟩ ?_
  clear c0 c1 c2 c3 c4 c5 hbx hb3
  refine Seqw.light (v := ?_) (by kernel_rfl) ?_ ?_
  rotate_left 1
  focus (intro w hSw; (try dsimp only at hSw); go_simp; try with_reducible rfl)
  try simp only [Act.put, List.setIfInBounds_toArray, List.set_cons_zero, List.set_cons_succ]
  refine Seqw.call (.int .i64 cs) (by kernel_rfl) (by kernel_rfl) (fun w hSw => by (try dsimp only at hSw); go_simp; exact ⟨rfl, rfl⟩) ?_ ?_
  · intro w3 hSw
    refine (number_any w3 s 6 4 6 4 rfl rfl (by decide) (by decide) (by omega) hsz).mono ?_
    rintro e w4 ⟨rfl, rfl⟩
    exact ⟨by rw [HCS.out], hSw⟩
  try simp only [Act.put, List.setIfInBounds_toArray, List.set_cons_zero, List.set_cons_succ]
  refine Seqw.light (v := ?_) (by kernel_rfl) ?_ ?_
  rotate_left 1
  focus (intro w hSw; (try dsimp only at hSw); go_simp; try with_reducible rfl)
  try simp only [Act.put, List.setIfInBounds_toArray, List.set_cons_zero, List.set_cons_succ]
  refine Seqw.call (.int .i64 cc) (by kernel_rfl) (by kernel_rfl) (fun w hSw => by (try dsimp only at hSw); go_simp; exact ⟨rfl, rfl⟩) ?_ ?_
  · intro w3 hSw
    refine (Crc_calls w3 t htb).mono ?_
    rintro e w4 ⟨rfl, hb4⟩
    obtain ⟨d0, _, _, _, _, _, _, d1⟩ := hSw
    have hsz4 := d1.size
    have d3 := (hb4.block _ (lt_of_heap d0)).trans d0
    obtain ⟨c0, c1, c2, c3, c4, c5⟩ := cells6 d3
    exact ⟨by rw [HCC.out], d3, c0, c1, c2, c3, c4, c5, d1.trans (hb4.mono (by simpa using hsz4))⟩
  try simp only [Act.put, List.setIfInBounds_toArray, List.set_cons_zero, List.set_cons_succ]
  refine Seqw.light (v := ?_) (by kernel_rfl) ?_ ?_
  rotate_left 1
  focus (intro w hSw; (try dsimp only at hSw); go_simp; try with_reducible rfl)
  try simp only [Act.put, List.setIfInBounds_toArray, List.set_cons_zero, List.set_cons_succ]
  refine Seqw.light (v := ?_) (by kernel_rfl) ?_ ?_
  rotate_left 1
  focus (intro w hSw; (try dsimp only at hSw); go_simp; try with_reducible rfl)
  try simp only [Act.put, List.setIfInBounds_toArray, List.set_cons_zero, List.set_cons_succ]
  refine Seqw.light (v := ?_) (by kernel_rfl) ?_ ?_
  rotate_left 1
  focus (intro w hSw; (try dsimp only at hSw); go_simp; try with_reducible rfl)
  try simp only [Act.put, List.setIfInBounds_toArray, List.set_cons_zero, List.set_cons_succ]
  refine Seqw.call (.bool false) (by kernel_rfl) (by kernel_rfl) (fun w hSw => by (try dsimp only at hSw); go_simp; exact ⟨rfl, rfl⟩) ?_ ?_
  · intro w3 hSw
    refine (headed_calls f0 f1 f2 f3 f4 none 0 0 w3).mono ?_
    rintro e w4 ⟨rfl, hw4⟩
    have hb4 : Below w3.heap.size w3 w4 := by rw [hw4]; exact (Below.refl _ _).alloc (Nat.le_refl _) _
    obtain ⟨d0, _, _, _, _, _, _, d1⟩ := hSw
    have hsz4 := d1.size
    have d3 := (hb4.block _ (lt_of_heap d0)).trans d0
    obtain ⟨c0, c1, c2, c3, c4, c5⟩ := cells6 d3
    exact ⟨by rw [HHD.out], d3, c0, c1, c2, c3, c4, c5, d1.trans (hb4.mono (by simpa using hsz4))⟩
  try simp only [Act.put, List.setIfInBounds_toArray, List.set_cons_zero, List.set_cons_succ]
  refine Seqw.light (v := ?_) (by kernel_rfl) ?_ ?_
  rotate_left 1
  focus (intro w hSw; (try dsimp only at hSw); go_simp; try with_reducible rfl)
  try simp only [Act.put, List.setIfInBounds_toArray, List.set_cons_zero, List.set_cons_succ]
  refine Seqw.light (v := ?_) (by kernel_rfl) ?_ ?_
  rotate_left 1
  focus (intro w hSw; (try dsimp only at hSw); go_simp; try with_reducible rfl)
  try simp only [Act.put, List.setIfInBounds_toArray, List.set_cons_zero, List.set_cons_succ]
  refine Seqw.light (v := ?_) (by kernel_rfl) ?_ ?_
  rotate_left 1
  focus (intro w hSw; (try dsimp only at hSw); go_simp; try with_reducible rfl)
  try simp only [Act.put, List.setIfInBounds_toArray, List.set_cons_zero, List.set_cons_succ]
  refine Seqw.skip (by kernel_rfl) ?_
  try simp only [Act.put, List.setIfInBounds_toArray, List.set_cons_zero, List.set_cons_succ]
  refine Seqw.skip (by kernel_rfl) ?_
  try simp only [Act.put, List.setIfInBounds_toArray, List.set_cons_zero, List.set_cons_succ]
  refine Seqw.skip (by kernel_rfl) ?_
  try simp only [Act.put, List.setIfInBounds_toArray, List.set_cons_zero, List.set_cons_succ]
  refine Seqw.skip (by kernel_rfl) ?_
  try simp only [Act.put, List.setIfInBounds_toArray, List.set_cons_zero, List.set_cons_succ]
  refine Seqw.skip (by kernel_rfl) ?_
  try simp only [Act.put, List.setIfInBounds_toArray, List.set_cons_zero, List.set_cons_succ]
  refine Seqw.skip (by kernel_rfl) ?_
  try simp only [Act.put, List.setIfInBounds_toArray, List.set_cons_zero, List.set_cons_succ]
  refine Seqw.light (v := ?_) (by kernel_rfl) ?_ ?_
  rotate_left 1
  focus (intro w hSw; (try dsimp only at hSw); go_simp; try with_reducible rfl)
  try simp only [Act.put, List.setIfInBounds_toArray, List.set_cons_zero, List.set_cons_succ]
  refine Seqw.nil fun w3 hS3 => ?_
  obtain ⟨d0, c0, c1, c2, c3, c4, c5, hb4⟩ := hS3
  have hz0 := hb4.block w.heap.size (by omega)
  have hz1 := hb4.block (w.heap.size + 1) (by omega)
  rw [alloc_old _ (alloc_old _ (heap_alloc_last w _))] at hz0
  rw [alloc_old _ (show ((w.alloc _).alloc _).heap[w.heap.size + 1]? = _ from by have := heap_alloc_last (w.alloc (.cells #[.int .i64 0, .int .i64 0, .int .i64 0, .int .i64 0, .int .i64 0, .slice none 0 0] 59)) (.cells #[.int .i64 0, .int .i64 0, .int .i64 0, .int .i64 0, .int .i64 0, .slice none 0 0] 59); rwa [show (w.alloc (.cells #[.int .i64 0, .int .i64 0, .int .i64 0, .int .i64 0, .int .i64 0, .slice none 0 0] 59)).heap.size = w.heap.size + 1 from by show (w.heap.push _).size = _; simp] at this)] at hz1
  obtain ⟨z0, z1, z2, z3, z4, z5⟩ := cells6 hz0
  obtain ⟨y0, y1, y2, y3, y4, y5⟩ := cells6 hz1
  have hfz : ∀ j, w3.frozen? ⟨w.heap.size, j, none⟩ = false := fun j => Lib.frozen_of_heap hz0 j
  have hwb := (((Below.refl w.heap.size w).alloc (Nat.le_refl _) (.cells #[.int .i64 0, .int .i64 0, .int .i64 0, .int .i64 0, .int .i64 0, .slice none 0 0] 59)).alloc (le_alloc (Nat.le_refl _) _) (.cells #[.int .i64 0, .int .i64 0, .int .i64 0, .int .i64 0, .int .i64 0, .slice none 0 0] 59)).alloc (le_alloc (le_alloc (Nat.le_refl _) _) _) (.cells #[.int .i64 f0, .int .i64 f1, .int .i64 f2, .int .i64 f3, .int .i64 f4, .slice none 0 0] 59)
  have HWB := Lib.hid (hwb.trans (hb4.mono (by omega)))
  clear hb4 hz0 hz1 hwb d0
  go_wp2
  refine bodyPost_ret (v := .tuple #[zb, .int .i64 0, .int .i64 100]) (by simp [results, Tryz.results44, go_sem, zb, *]) rfl ⟨rfl, ?_⟩
  exact (((((HWB.out.setCell (p := ⟨w.heap.size, 0, none⟩) (Nat.le_refl _) _).setCell (p := ⟨w.heap.size, 1, none⟩) (Nat.le_refl _) _).setCell (p := ⟨w.heap.size, 2, none⟩) (Nat.le_refl _) _).setCell (p := ⟨w.heap.size, 3, none⟩) (Nat.le_refl _) _).setCell (p := ⟨w.heap.size, 4, none⟩) (Nat.le_refl _) _).setCell (p := ⟨w.heap.size, 5, none⟩) (Nat.le_refl _) _
set_option maxRecDepth 100000 in
set_option maxHeartbeats 4000000 in
theorem head_codec (s : ByteArray) (w : World) (h : 10 ≤ s.size) (hsz : s.size ≤ 1099511627776) (n : Int) (hn : nv s.data.toList 2 4 = n) (hm : (s.extract 0 2).toList = [80, 66]) (h29 : 29 ≤ n) (hmax : n ≤ 262144) (hl : 10 + n ≤ (s.size : Int)) (t : ByteArray) (ht : s.extract 10 (10 + n).toNat = t) (f0 f1 f2 f3 f4 cs cc : Int) (hf0 : (nv t.data.toList 0 8) = f0) (hf1 : (nv t.data.toList 8 2) = f1) (hf2 : (nv t.data.toList 10 4) = f2) (hf3 : (nv t.data.toList 14 4) = f3) (hf4 : (nv t.data.toList 18 4) = f4) (hcs : nv s.data.toList 6 4 = cs) (hcc : (crc t.data.toList : Int) = cc) (hne : (cs != cc) = false) (hhd : headed f0 f1 f2 f3 f4 = true) (cb : Int) (hcb : ((t.data.toList.getD 22 0).toNat : Int) = cb) (hcd : 3 ≤ cb) :
    Calls Tryz.prog 44 #[.string s] w fun e w' => e = .returned (.tuple #[zb, .int .i64 0, .int .i64 100]) ∧ Below w.heap.size w w' := by
  have htn : t.size = n.toNat := by rw [← ht, ByteArray.size_extract]; omega
  have htb : t.size ≤ 1099511627776 := by omega
  have HN := Lib.hid hn
  clear hn
  have HT := Lib.hid ht
  clear ht
  have HF0 := Lib.hid hf0
  clear hf0
  have HF1 := Lib.hid hf1
  clear hf1
  have HF2 := Lib.hid hf2
  clear hf2
  have HF3 := Lib.hid hf3
  clear hf3
  have HF4 := Lib.hid hf4
  clear hf4
  have HCS := Lib.hid hcs
  clear hcs
  have HCC := Lib.hid hcc
  clear hcc
  have HTN := Lib.hid htn
  clear htn
  have HHD := Lib.hid hhd
  clear hhd
  have HCB := Lib.hid hcb
  clear hcb
  have h' : ¬ (s.size : Int) < 10 := by omega
  have h2 : (2 : Int) ≤ (s.size : Int) := by omega
  go_enter Tryz.func44, Tryz.ntmps44
  go_wp2_with fail
  refine (number_any _ s 2 4 2 4 rfl rfl (by decide) (by decide) (by omega) hsz).mono ?_
  rintro e w1 ⟨rfl, rfl⟩
  rw [HN.out]
  have h29' : ¬ n < 29 := by omega
  have hmax' : ¬ 262144 < n := by omega
  have hl' : ¬ (s.size : Int) < 10 + n := by omega
  go_wp2_with fail
  rw [HT.out]
  refine (number_any _ t 0 8 0 8 rfl rfl (by decide) (by decide) (by have := HTN.out; omega) htb).mono ?_
  rintro e w1 ⟨rfl, rfl⟩
  rw [HF0.out]
  go_wp2_with fail
  refine (number_any _ t 8 2 8 2 rfl rfl (by decide) (by decide) (by have := HTN.out; omega) htb).mono ?_
  rintro e w1 ⟨rfl, rfl⟩
  rw [HF1.out]
  go_wp2_with fail
  refine (number_any _ t 10 4 10 4 rfl rfl (by decide) (by decide) (by have := HTN.out; omega) htb).mono ?_
  rintro e w1 ⟨rfl, rfl⟩
  rw [HF2.out]
  go_wp2_with fail
  refine (number_any _ t 14 4 14 4 rfl rfl (by decide) (by decide) (by have := HTN.out; omega) htb).mono ?_
  rintro e w1 ⟨rfl, rfl⟩
  rw [HF3.out]
  go_wp2_with fail
  refine (number_any _ t 18 4 18 4 rfl rfl (by decide) (by decide) (by have := HTN.out; omega) htb).mono ?_
  rintro e w1 ⟨rfl, rfl⟩
  rw [HF4.out]
  go_wp2_with fail
  have hbx := heap_alloc_last ((w.alloc (.cells #[.int .i64 0, .int .i64 0, .int .i64 0, .int .i64 0, .int .i64 0, .slice none 0 0] 59)).alloc (.cells #[.int .i64 0, .int .i64 0, .int .i64 0, .int .i64 0, .int .i64 0, .slice none 0 0] 59)) (.cells #[.int .i64 f0, .int .i64 f1, .int .i64 f2, .int .i64 f3, .int .i64 f4, .slice none 0 0] 59)
  rw [show ((w.alloc (.cells #[.int .i64 0, .int .i64 0, .int .i64 0, .int .i64 0, .int .i64 0, .slice none 0 0] 59)).alloc (.cells #[.int .i64 0, .int .i64 0, .int .i64 0, .int .i64 0, .int .i64 0, .slice none 0 0] 59)).heap.size = w.heap.size + 1 + 1 from by show ((w.heap.push _).push _).size = _; simp] at hbx
  obtain ⟨c0, c1, c2, c3, c4, c5⟩ := cells6 hbx
  have hb3 := Below.refl (w.heap.size + 3) (((w.alloc (.cells #[.int .i64 0, .int .i64 0, .int .i64 0, .int .i64 0, .int .i64 0, .slice none 0 0] 59)).alloc (.cells #[.int .i64 0, .int .i64 0, .int .i64 0, .int .i64 0, .int .i64 0, .slice none 0 0] 59)).alloc (.cells #[.int .i64 f0, .int .i64 f1, .int .i64 f2, .int .i64 f3, .int .i64 f4, .slice none 0 0] 59))
  have htn22 : (22 : Int) < (t.size : Int) := by have := HTN.out; omega
  have hlt22 : 22 < t.size := by have := HTN.out; omega
  have hby : IntKind.i64.wrap ((t[22]'hlt22).toNat : Int) = cb := by rw [← HCB.out, byte_at t 22 hlt22]; exact IntWalk.i64_in _ (by have := UInt8.toNat_lt (t.data.toList.getD 22 0); omega)
  refine wp_region_seqw (S := (fun w' => w'.heap[w.heap.size + 1 + 1]? = some (.cells #[.int .i64 f0, .int .i64 f1, .int .i64 f2, .int .i64 f3, .int .i64 f4, .slice none 0 0] 59 (0, 0)) ∧ w'.cell? ⟨w.heap.size + 1 + 1, 0, none⟩ = some (.int .i64 f0) ∧ w'.cell? ⟨w.heap.size + 1 + 1, 1, none⟩ = some (.int .i64 f1) ∧ w'.cell? ⟨w.heap.size + 1 + 1, 2, none⟩ = some (.int .i64 f2) ∧ w'.cell? ⟨w.heap.size + 1 + 1, 3, none⟩ = some (.int .i64 f3) ∧ w'.cell? ⟨w.heap.size + 1 + 1, 4, none⟩ = some (.int .i64 f4) ∧ w'.cell? ⟨w.heap.size + 1 + 1, 5, none⟩ = some (.slice none 0 0) ∧ Below (w.heap.size + 3) (((w.alloc (.cells #[.int .i64 0, .int .i64 0, .int .i64 0, .int .i64 0, .int .i64 0, .slice none 0 0] 59)).alloc (.cells #[.int .i64 0, .int .i64 0, .int .i64 0, .int .i64 0, .int .i64 0, .slice none 0 0] 59)).alloc (.cells #[.int .i64 f0, .int .i64 f1, .int .i64 f2, .int .i64 f3, .int .i64 f4, .slice none 0 0] 59)) w')) (by kernel_rfl) (by kernel_rfl) ⟨hbx, c0, c1, c2, c3, c4, c5, hb3.drew⟩ ?_
  clear c0 c1 c2 c3 c4 c5 hbx hb3
  refine Seqw.light (v := ?_) (by kernel_rfl) ?_ ?_
  rotate_left 1
  focus (intro w hSw; (try dsimp only at hSw); go_simp; try with_reducible rfl)
  try simp only [Act.put, List.setIfInBounds_toArray, List.set_cons_zero, List.set_cons_succ]
  refine Seqw.call (.int .i64 cs) (by kernel_rfl) (by kernel_rfl) (fun w hSw => by (try dsimp only at hSw); go_simp; exact ⟨rfl, rfl⟩) ?_ ?_
  · intro w3 hSw
    refine (number_any w3 s 6 4 6 4 rfl rfl (by decide) (by decide) (by omega) hsz).mono ?_
    rintro e w4 ⟨rfl, rfl⟩
    exact ⟨by rw [HCS.out], hSw⟩
  try simp only [Act.put, List.setIfInBounds_toArray, List.set_cons_zero, List.set_cons_succ]
  refine Seqw.light (v := ?_) (by kernel_rfl) ?_ ?_
  rotate_left 1
  focus (intro w hSw; (try dsimp only at hSw); go_simp; try with_reducible rfl)
  try simp only [Act.put, List.setIfInBounds_toArray, List.set_cons_zero, List.set_cons_succ]
  refine Seqw.call (.int .i64 cc) (by kernel_rfl) (by kernel_rfl) (fun w hSw => by (try dsimp only at hSw); go_simp; exact ⟨rfl, rfl⟩) ?_ ?_
  · intro w3 hSw
    refine (Crc_calls w3 t htb).mono ?_
    rintro e w4 ⟨rfl, hb4⟩
    obtain ⟨d0, _, _, _, _, _, _, d1⟩ := hSw
    have hsz4 := d1.size
    have d3 := (hb4.block _ (lt_of_heap d0)).trans d0
    obtain ⟨c0, c1, c2, c3, c4, c5⟩ := cells6 d3
    exact ⟨by rw [HCC.out], d3, c0, c1, c2, c3, c4, c5, d1.trans (hb4.mono (by simpa using hsz4))⟩
  try simp only [Act.put, List.setIfInBounds_toArray, List.set_cons_zero, List.set_cons_succ]
  refine Seqw.light (v := ?_) (by kernel_rfl) ?_ ?_
  rotate_left 1
  focus (intro w hSw; (try dsimp only at hSw); go_simp; try with_reducible rfl)
  try simp only [Act.put, List.setIfInBounds_toArray, List.set_cons_zero, List.set_cons_succ]
  refine Seqw.light (v := ?_) (by kernel_rfl) ?_ ?_
  rotate_left 1
  focus (intro w hSw; (try dsimp only at hSw); go_simp; try with_reducible rfl)
  try simp only [Act.put, List.setIfInBounds_toArray, List.set_cons_zero, List.set_cons_succ]
  refine Seqw.light (v := ?_) (by kernel_rfl) ?_ ?_
  rotate_left 1
  focus (intro w hSw; (try dsimp only at hSw); go_simp; try with_reducible rfl)
  try simp only [Act.put, List.setIfInBounds_toArray, List.set_cons_zero, List.set_cons_succ]
  refine Seqw.call (.bool true) (by kernel_rfl) (by kernel_rfl) (fun w hSw => by (try dsimp only at hSw); go_simp; exact ⟨rfl, rfl⟩) ?_ ?_
  · intro w3 hSw
    refine (headed_calls f0 f1 f2 f3 f4 none 0 0 w3).mono ?_
    rintro e w4 ⟨rfl, hw4⟩
    have hb4 : Below w3.heap.size w3 w4 := by rw [hw4]; exact (Below.refl _ _).alloc (Nat.le_refl _) _
    obtain ⟨d0, _, _, _, _, _, _, d1⟩ := hSw
    have hsz4 := d1.size
    have d3 := (hb4.block _ (lt_of_heap d0)).trans d0
    obtain ⟨c0, c1, c2, c3, c4, c5⟩ := cells6 d3
    exact ⟨by rw [HHD.out], d3, c0, c1, c2, c3, c4, c5, d1.trans (hb4.mono (by simpa using hsz4))⟩
  try simp only [Act.put, List.setIfInBounds_toArray, List.set_cons_zero, List.set_cons_succ]
  refine Seqw.light (v := ?_) (by kernel_rfl) ?_ ?_
  rotate_left 1
  focus (intro w hSw; (try dsimp only at hSw); go_simp; try with_reducible rfl)
  try simp only [Act.put, List.setIfInBounds_toArray, List.set_cons_zero, List.set_cons_succ]
  refine Seqw.light (v := ?_) (by kernel_rfl) ?_ ?_
  rotate_left 1
  focus (intro w hSw; (try dsimp only at hSw); go_simp; try with_reducible rfl)
  try simp only [Act.put, List.setIfInBounds_toArray, List.set_cons_zero, List.set_cons_succ]
  refine Seqw.light (v := ?_) (by kernel_rfl) ?_ ?_
  rotate_left 1
  focus (intro w hSw; (try dsimp only at hSw); go_simp; try with_reducible rfl)
  try simp only [Act.put, List.setIfInBounds_toArray, List.set_cons_zero, List.set_cons_succ]
  refine Seqw.light (v := ?_) (by kernel_rfl) ?_ ?_
  rotate_left 1
  focus (intro w hSw; (try dsimp only at hSw); go_simp; try with_reducible rfl)
  try simp only [Act.put, List.setIfInBounds_toArray, List.set_cons_zero, List.set_cons_succ]
  refine Seqw.light (v := ?_) (by kernel_rfl) ?_ ?_
  rotate_left 1
  focus (intro w hSw; (try dsimp only at hSw); go_simp; try with_reducible rfl)
  try simp only [Act.put, List.setIfInBounds_toArray, List.set_cons_zero, List.set_cons_succ]
  refine Seqw.light (v := ?_) (by kernel_rfl) ?_ ?_
  rotate_left 1
  focus (intro w hSw; (try dsimp only at hSw); go_simp; try with_reducible rfl)
  try simp only [Act.put, List.setIfInBounds_toArray, List.set_cons_zero, List.set_cons_succ]
  refine Seqw.callw (fun v => ∃ ap, v = .slice ap 3 3) (fun _ => (fun w' => w'.heap[w.heap.size + 1 + 1]? = some (.cells #[.int .i64 f0, .int .i64 f1, .int .i64 f2, .int .i64 f3, .int .i64 f4, .slice none 0 0] 59 (0, 0)) ∧ w'.cell? ⟨w.heap.size + 1 + 1, 0, none⟩ = some (.int .i64 f0) ∧ w'.cell? ⟨w.heap.size + 1 + 1, 1, none⟩ = some (.int .i64 f1) ∧ w'.cell? ⟨w.heap.size + 1 + 1, 2, none⟩ = some (.int .i64 f2) ∧ w'.cell? ⟨w.heap.size + 1 + 1, 3, none⟩ = some (.int .i64 f3) ∧ w'.cell? ⟨w.heap.size + 1 + 1, 4, none⟩ = some (.int .i64 f4) ∧ w'.cell? ⟨w.heap.size + 1 + 1, 5, none⟩ = some (.slice none 0 0) ∧ Below (w.heap.size + 3) (((w.alloc (.cells #[.int .i64 0, .int .i64 0, .int .i64 0, .int .i64 0, .int .i64 0, .slice none 0 0] 59)).alloc (.cells #[.int .i64 0, .int .i64 0, .int .i64 0, .int .i64 0, .int .i64 0, .slice none 0 0] 59)).alloc (.cells #[.int .i64 f0, .int .i64 f1, .int .i64 f2, .int .i64 f3, .int .i64 f4, .slice none 0 0] 59)) w')) (by kernel_rfl) (by kernel_rfl) (fun w hSw => by (try dsimp only at hSw); go_simp; exact ⟨rfl, rfl⟩) ?_ (.inl fun _ _ h => h) ?_
  · intro w3 hSw
    refine (codecs w3).mono ?_
    rintro e w4 ⟨rfl, hw4⟩
    have hb4 : Below w3.heap.size w3 w4 := by rw [hw4]; exact (Below.refl _ _).alloc (Nat.le_refl _) _
    obtain ⟨d0, _, _, _, _, _, _, d1⟩ := hSw
    have hsz4 := d1.size
    have d3 := (hb4.block _ (lt_of_heap d0)).trans d0
    obtain ⟨c0, c1, c2, c3, c4, c5⟩ := cells6 d3
    exact ⟨_, rfl, ⟨_, rfl⟩, d3, c0, c1, c2, c3, c4, c5, d1.trans (hb4.mono (by simpa using hsz4))⟩
  rintro v ⟨ap, rfl⟩
  try simp only [Act.put, List.setIfInBounds_toArray, List.set_cons_zero, List.set_cons_succ]
  refine Seqw.light (v := ?_) (by kernel_rfl) ?_ ?_
  rotate_left 1
  focus (intro w hSw; (try dsimp only at hSw); go_simp; try with_reducible rfl)
  try simp only [Act.put, List.setIfInBounds_toArray, List.set_cons_zero, List.set_cons_succ]
  refine Seqw.light (v := ?_) (by kernel_rfl) ?_ ?_
  rotate_left 1
  focus (intro w hSw; (try dsimp only at hSw); go_simp; try with_reducible rfl)
  try simp only [Act.put, List.setIfInBounds_toArray, List.set_cons_zero, List.set_cons_succ]
  refine Seqw.light (v := ?_) (by kernel_rfl) ?_ ?_
  rotate_left 1
  focus (intro w hSw; (try dsimp only at hSw); go_simp; try with_reducible rfl)
  try simp only [Act.put, List.setIfInBounds_toArray, List.set_cons_zero, List.set_cons_succ]
  refine Seqw.nil fun w3 hS3 => ?_
  obtain ⟨d0, c0, c1, c2, c3, c4, c5, hb4⟩ := hS3
  have hz0 := hb4.block w.heap.size (by omega)
  have hz1 := hb4.block (w.heap.size + 1) (by omega)
  rw [alloc_old _ (alloc_old _ (heap_alloc_last w _))] at hz0
  rw [alloc_old _ (show ((w.alloc _).alloc _).heap[w.heap.size + 1]? = _ from by have := heap_alloc_last (w.alloc (.cells #[.int .i64 0, .int .i64 0, .int .i64 0, .int .i64 0, .int .i64 0, .slice none 0 0] 59)) (.cells #[.int .i64 0, .int .i64 0, .int .i64 0, .int .i64 0, .int .i64 0, .slice none 0 0] 59); rwa [show (w.alloc (.cells #[.int .i64 0, .int .i64 0, .int .i64 0, .int .i64 0, .int .i64 0, .slice none 0 0] 59)).heap.size = w.heap.size + 1 from by show (w.heap.push _).size = _; simp] at this)] at hz1
  obtain ⟨z0, z1, z2, z3, z4, z5⟩ := cells6 hz0
  obtain ⟨y0, y1, y2, y3, y4, y5⟩ := cells6 hz1
  have hfz : ∀ j, w3.frozen? ⟨w.heap.size, j, none⟩ = false := fun j => Lib.frozen_of_heap hz0 j
  have hwb := (((Below.refl w.heap.size w).alloc (Nat.le_refl _) (.cells #[.int .i64 0, .int .i64 0, .int .i64 0, .int .i64 0, .int .i64 0, .slice none 0 0] 59)).alloc (le_alloc (Nat.le_refl _) _) (.cells #[.int .i64 0, .int .i64 0, .int .i64 0, .int .i64 0, .int .i64 0, .slice none 0 0] 59)).alloc (le_alloc (le_alloc (Nat.le_refl _) _) _) (.cells #[.int .i64 f0, .int .i64 f1, .int .i64 f2, .int .i64 f3, .int .i64 f4, .slice none 0 0] 59)
  have HWB := Lib.hid (hwb.trans (hb4.mono (by omega)))
  clear hb4 hz0 hz1 hwb d0
  go_wp2
  refine bodyPost_ret (v := .tuple #[zb, .int .i64 0, .int .i64 100]) (by simp [results, Tryz.results44, go_sem, zb, *]) rfl ⟨rfl, ?_⟩
  exact (((((HWB.out.setCell (p := ⟨w.heap.size, 0, none⟩) (Nat.le_refl _) _).setCell (p := ⟨w.heap.size, 1, none⟩) (Nat.le_refl _) _).setCell (p := ⟨w.heap.size, 2, none⟩) (Nat.le_refl _) _).setCell (p := ⟨w.heap.size, 3, none⟩) (Nat.le_refl _) _).setCell (p := ⟨w.heap.size, 4, none⟩) (Nat.le_refl _) _).setCell (p := ⟨w.heap.size, 5, none⟩) (Nat.le_refl _) _
set_option maxRecDepth 100000 in
set_option maxHeartbeats 4000000 in
theorem head_good (s : ByteArray) (w : World) (h : 10 ≤ s.size) (hsz : s.size ≤ 1099511627776) (n : Int) (hn : nv s.data.toList 2 4 = n) (hm : (s.extract 0 2).toList = [80, 66]) (h29 : 29 ≤ n) (hmax : n ≤ 262144) (hl : 10 + n ≤ (s.size : Int)) (t : ByteArray) (ht : s.extract 10 (10 + n).toNat = t) (f0 f1 f2 f3 f4 cs cc : Int) (hf0 : (nv t.data.toList 0 8) = f0) (hf1 : (nv t.data.toList 8 2) = f1) (hf2 : (nv t.data.toList 10 4) = f2) (hf3 : (nv t.data.toList 14 4) = f3) (hf4 : (nv t.data.toList 18 4) = f4) (hcs : nv s.data.toList 6 4 = cs) (hcc : (crc t.data.toList : Int) = cc) (hne : (cs != cc) = false) (hhd : headed f0 f1 f2 f3 f4 = true) (cb : Int) (hcb : ((t.data.toList.getD 22 0).toNat : Int) = cb) (hcd : ¬ 3 ≤ cb) :
    Calls Tryz.prog 44 #[.string s] w fun e w' => e = .returned (.tuple #[.agg #[.int .i64 f0, .int .i64 f1, .int .i64 f2, .int .i64 f3, .int .i64 f4, .slice none 0 0], .int .i64 (10 + n), .int .i64 0]) ∧ Below w.heap.size w w' := by
  have htn : t.size = n.toNat := by rw [← ht, ByteArray.size_extract]; omega
  have htb : t.size ≤ 1099511627776 := by omega
  have HN := Lib.hid hn
  clear hn
  have HT := Lib.hid ht
  clear ht
  have HF0 := Lib.hid hf0
  clear hf0
  have HF1 := Lib.hid hf1
  clear hf1
  have HF2 := Lib.hid hf2
  clear hf2
  have HF3 := Lib.hid hf3
  clear hf3
  have HF4 := Lib.hid hf4
  clear hf4
  have HCS := Lib.hid hcs
  clear hcs
  have HCC := Lib.hid hcc
  clear hcc
  have HTN := Lib.hid htn
  clear htn
  have HHD := Lib.hid hhd
  clear hhd
  have HCB := Lib.hid hcb
  clear hcb
  have h' : ¬ (s.size : Int) < 10 := by omega
  have h2 : (2 : Int) ≤ (s.size : Int) := by omega
  go_enter Tryz.func44, Tryz.ntmps44
  go_wp2_with fail
  refine (number_any _ s 2 4 2 4 rfl rfl (by decide) (by decide) (by omega) hsz).mono ?_
  rintro e w1 ⟨rfl, rfl⟩
  rw [HN.out]
  have h29' : ¬ n < 29 := by omega
  have hmax' : ¬ 262144 < n := by omega
  have hl' : ¬ (s.size : Int) < 10 + n := by omega
  go_wp2_with fail
  rw [HT.out]
  refine (number_any _ t 0 8 0 8 rfl rfl (by decide) (by decide) (by have := HTN.out; omega) htb).mono ?_
  rintro e w1 ⟨rfl, rfl⟩
  rw [HF0.out]
  go_wp2_with fail
  refine (number_any _ t 8 2 8 2 rfl rfl (by decide) (by decide) (by have := HTN.out; omega) htb).mono ?_
  rintro e w1 ⟨rfl, rfl⟩
  rw [HF1.out]
  go_wp2_with fail
  refine (number_any _ t 10 4 10 4 rfl rfl (by decide) (by decide) (by have := HTN.out; omega) htb).mono ?_
  rintro e w1 ⟨rfl, rfl⟩
  rw [HF2.out]
  go_wp2_with fail
  refine (number_any _ t 14 4 14 4 rfl rfl (by decide) (by decide) (by have := HTN.out; omega) htb).mono ?_
  rintro e w1 ⟨rfl, rfl⟩
  rw [HF3.out]
  go_wp2_with fail
  refine (number_any _ t 18 4 18 4 rfl rfl (by decide) (by decide) (by have := HTN.out; omega) htb).mono ?_
  rintro e w1 ⟨rfl, rfl⟩
  rw [HF4.out]
  go_wp2_with fail
  have hbx := heap_alloc_last ((w.alloc (.cells #[.int .i64 0, .int .i64 0, .int .i64 0, .int .i64 0, .int .i64 0, .slice none 0 0] 59)).alloc (.cells #[.int .i64 0, .int .i64 0, .int .i64 0, .int .i64 0, .int .i64 0, .slice none 0 0] 59)) (.cells #[.int .i64 f0, .int .i64 f1, .int .i64 f2, .int .i64 f3, .int .i64 f4, .slice none 0 0] 59)
  rw [show ((w.alloc (.cells #[.int .i64 0, .int .i64 0, .int .i64 0, .int .i64 0, .int .i64 0, .slice none 0 0] 59)).alloc (.cells #[.int .i64 0, .int .i64 0, .int .i64 0, .int .i64 0, .int .i64 0, .slice none 0 0] 59)).heap.size = w.heap.size + 1 + 1 from by show ((w.heap.push _).push _).size = _; simp] at hbx
  obtain ⟨c0, c1, c2, c3, c4, c5⟩ := cells6 hbx
  have hb3 := Below.refl (w.heap.size + 3) (((w.alloc (.cells #[.int .i64 0, .int .i64 0, .int .i64 0, .int .i64 0, .int .i64 0, .slice none 0 0] 59)).alloc (.cells #[.int .i64 0, .int .i64 0, .int .i64 0, .int .i64 0, .int .i64 0, .slice none 0 0] 59)).alloc (.cells #[.int .i64 f0, .int .i64 f1, .int .i64 f2, .int .i64 f3, .int .i64 f4, .slice none 0 0] 59))
  have htn22 : (22 : Int) < (t.size : Int) := by have := HTN.out; omega
  have hlt22 : 22 < t.size := by have := HTN.out; omega
  have hby : IntKind.i64.wrap ((t[22]'hlt22).toNat : Int) = cb := by rw [← HCB.out, byte_at t 22 hlt22]; exact IntWalk.i64_in _ (by have := UInt8.toNat_lt (t.data.toList.getD 22 0); omega)
  refine wp_region_seqw (S := (fun w' => w'.heap[w.heap.size + 1 + 1]? = some (.cells #[.int .i64 f0, .int .i64 f1, .int .i64 f2, .int .i64 f3, .int .i64 f4, .slice none 0 0] 59 (0, 0)) ∧ w'.cell? ⟨w.heap.size + 1 + 1, 0, none⟩ = some (.int .i64 f0) ∧ w'.cell? ⟨w.heap.size + 1 + 1, 1, none⟩ = some (.int .i64 f1) ∧ w'.cell? ⟨w.heap.size + 1 + 1, 2, none⟩ = some (.int .i64 f2) ∧ w'.cell? ⟨w.heap.size + 1 + 1, 3, none⟩ = some (.int .i64 f3) ∧ w'.cell? ⟨w.heap.size + 1 + 1, 4, none⟩ = some (.int .i64 f4) ∧ w'.cell? ⟨w.heap.size + 1 + 1, 5, none⟩ = some (.slice none 0 0) ∧ Below (w.heap.size + 3) (((w.alloc (.cells #[.int .i64 0, .int .i64 0, .int .i64 0, .int .i64 0, .int .i64 0, .slice none 0 0] 59)).alloc (.cells #[.int .i64 0, .int .i64 0, .int .i64 0, .int .i64 0, .int .i64 0, .slice none 0 0] 59)).alloc (.cells #[.int .i64 f0, .int .i64 f1, .int .i64 f2, .int .i64 f3, .int .i64 f4, .slice none 0 0] 59)) w')) (by kernel_rfl) (by kernel_rfl) ⟨hbx, c0, c1, c2, c3, c4, c5, hb3.drew⟩ ?_
  clear c0 c1 c2 c3 c4 c5 hbx hb3
  refine Seqw.light (v := ?_) (by kernel_rfl) ?_ ?_
  rotate_left 1
  focus (intro w hSw; (try dsimp only at hSw); go_simp; try with_reducible rfl)
  try simp only [Act.put, List.setIfInBounds_toArray, List.set_cons_zero, List.set_cons_succ]
  refine Seqw.call (.int .i64 cs) (by kernel_rfl) (by kernel_rfl) (fun w hSw => by (try dsimp only at hSw); go_simp; exact ⟨rfl, rfl⟩) ?_ ?_
  · intro w3 hSw
    refine (number_any w3 s 6 4 6 4 rfl rfl (by decide) (by decide) (by omega) hsz).mono ?_
    rintro e w4 ⟨rfl, rfl⟩
    exact ⟨by rw [HCS.out], hSw⟩
  try simp only [Act.put, List.setIfInBounds_toArray, List.set_cons_zero, List.set_cons_succ]
  refine Seqw.light (v := ?_) (by kernel_rfl) ?_ ?_
  rotate_left 1
  focus (intro w hSw; (try dsimp only at hSw); go_simp; try with_reducible rfl)
  try simp only [Act.put, List.setIfInBounds_toArray, List.set_cons_zero, List.set_cons_succ]
  refine Seqw.call (.int .i64 cc) (by kernel_rfl) (by kernel_rfl) (fun w hSw => by (try dsimp only at hSw); go_simp; exact ⟨rfl, rfl⟩) ?_ ?_
  · intro w3 hSw
    refine (Crc_calls w3 t htb).mono ?_
    rintro e w4 ⟨rfl, hb4⟩
    obtain ⟨d0, _, _, _, _, _, _, d1⟩ := hSw
    have hsz4 := d1.size
    have d3 := (hb4.block _ (lt_of_heap d0)).trans d0
    obtain ⟨c0, c1, c2, c3, c4, c5⟩ := cells6 d3
    exact ⟨by rw [HCC.out], d3, c0, c1, c2, c3, c4, c5, d1.trans (hb4.mono (by simpa using hsz4))⟩
  try simp only [Act.put, List.setIfInBounds_toArray, List.set_cons_zero, List.set_cons_succ]
  refine Seqw.light (v := ?_) (by kernel_rfl) ?_ ?_
  rotate_left 1
  focus (intro w hSw; (try dsimp only at hSw); go_simp; try with_reducible rfl)
  try simp only [Act.put, List.setIfInBounds_toArray, List.set_cons_zero, List.set_cons_succ]
  refine Seqw.light (v := ?_) (by kernel_rfl) ?_ ?_
  rotate_left 1
  focus (intro w hSw; (try dsimp only at hSw); go_simp; try with_reducible rfl)
  try simp only [Act.put, List.setIfInBounds_toArray, List.set_cons_zero, List.set_cons_succ]
  refine Seqw.light (v := ?_) (by kernel_rfl) ?_ ?_
  rotate_left 1
  focus (intro w hSw; (try dsimp only at hSw); go_simp; try with_reducible rfl)
  try simp only [Act.put, List.setIfInBounds_toArray, List.set_cons_zero, List.set_cons_succ]
  refine Seqw.call (.bool true) (by kernel_rfl) (by kernel_rfl) (fun w hSw => by (try dsimp only at hSw); go_simp; exact ⟨rfl, rfl⟩) ?_ ?_
  · intro w3 hSw
    refine (headed_calls f0 f1 f2 f3 f4 none 0 0 w3).mono ?_
    rintro e w4 ⟨rfl, hw4⟩
    have hb4 : Below w3.heap.size w3 w4 := by rw [hw4]; exact (Below.refl _ _).alloc (Nat.le_refl _) _
    obtain ⟨d0, _, _, _, _, _, _, d1⟩ := hSw
    have hsz4 := d1.size
    have d3 := (hb4.block _ (lt_of_heap d0)).trans d0
    obtain ⟨c0, c1, c2, c3, c4, c5⟩ := cells6 d3
    exact ⟨by rw [HHD.out], d3, c0, c1, c2, c3, c4, c5, d1.trans (hb4.mono (by simpa using hsz4))⟩
  try simp only [Act.put, List.setIfInBounds_toArray, List.set_cons_zero, List.set_cons_succ]
  refine Seqw.light (v := ?_) (by kernel_rfl) ?_ ?_
  rotate_left 1
  focus (intro w hSw; (try dsimp only at hSw); go_simp; try with_reducible rfl)
  try simp only [Act.put, List.setIfInBounds_toArray, List.set_cons_zero, List.set_cons_succ]
  refine Seqw.light (v := ?_) (by kernel_rfl) ?_ ?_
  rotate_left 1
  focus (intro w hSw; (try dsimp only at hSw); go_simp; try with_reducible rfl)
  try simp only [Act.put, List.setIfInBounds_toArray, List.set_cons_zero, List.set_cons_succ]
  refine Seqw.light (v := ?_) (by kernel_rfl) ?_ ?_
  rotate_left 1
  focus (intro w hSw; (try dsimp only at hSw); go_simp; try with_reducible rfl)
  try simp only [Act.put, List.setIfInBounds_toArray, List.set_cons_zero, List.set_cons_succ]
  refine Seqw.light (v := ?_) (by kernel_rfl) ?_ ?_
  rotate_left 1
  focus (intro w hSw; (try dsimp only at hSw); go_simp; try with_reducible rfl)
  try simp only [Act.put, List.setIfInBounds_toArray, List.set_cons_zero, List.set_cons_succ]
  refine Seqw.light (v := ?_) (by kernel_rfl) ?_ ?_
  rotate_left 1
  focus (intro w hSw; (try dsimp only at hSw); go_simp; try with_reducible rfl)
  try simp only [Act.put, List.setIfInBounds_toArray, List.set_cons_zero, List.set_cons_succ]
  refine Seqw.light (v := ?_) (by kernel_rfl) ?_ ?_
  rotate_left 1
  focus (intro w hSw; (try dsimp only at hSw); go_simp; try with_reducible rfl)
  try simp only [Act.put, List.setIfInBounds_toArray, List.set_cons_zero, List.set_cons_succ]
  refine Seqw.callw (fun v => ∃ ap, v = .slice ap 3 3) (fun _ => (fun w' => w'.heap[w.heap.size + 1 + 1]? = some (.cells #[.int .i64 f0, .int .i64 f1, .int .i64 f2, .int .i64 f3, .int .i64 f4, .slice none 0 0] 59 (0, 0)) ∧ w'.cell? ⟨w.heap.size + 1 + 1, 0, none⟩ = some (.int .i64 f0) ∧ w'.cell? ⟨w.heap.size + 1 + 1, 1, none⟩ = some (.int .i64 f1) ∧ w'.cell? ⟨w.heap.size + 1 + 1, 2, none⟩ = some (.int .i64 f2) ∧ w'.cell? ⟨w.heap.size + 1 + 1, 3, none⟩ = some (.int .i64 f3) ∧ w'.cell? ⟨w.heap.size + 1 + 1, 4, none⟩ = some (.int .i64 f4) ∧ w'.cell? ⟨w.heap.size + 1 + 1, 5, none⟩ = some (.slice none 0 0) ∧ Below (w.heap.size + 3) (((w.alloc (.cells #[.int .i64 0, .int .i64 0, .int .i64 0, .int .i64 0, .int .i64 0, .slice none 0 0] 59)).alloc (.cells #[.int .i64 0, .int .i64 0, .int .i64 0, .int .i64 0, .int .i64 0, .slice none 0 0] 59)).alloc (.cells #[.int .i64 f0, .int .i64 f1, .int .i64 f2, .int .i64 f3, .int .i64 f4, .slice none 0 0] 59)) w')) (by kernel_rfl) (by kernel_rfl) (fun w hSw => by (try dsimp only at hSw); go_simp; exact ⟨rfl, rfl⟩) ?_ (.inl fun _ _ h => h) ?_
  · intro w3 hSw
    refine (codecs w3).mono ?_
    rintro e w4 ⟨rfl, hw4⟩
    have hb4 : Below w3.heap.size w3 w4 := by rw [hw4]; exact (Below.refl _ _).alloc (Nat.le_refl _) _
    obtain ⟨d0, _, _, _, _, _, _, d1⟩ := hSw
    have hsz4 := d1.size
    have d3 := (hb4.block _ (lt_of_heap d0)).trans d0
    obtain ⟨c0, c1, c2, c3, c4, c5⟩ := cells6 d3
    exact ⟨_, rfl, ⟨_, rfl⟩, d3, c0, c1, c2, c3, c4, c5, d1.trans (hb4.mono (by simpa using hsz4))⟩
  rintro v ⟨ap, rfl⟩
  try simp only [Act.put, List.setIfInBounds_toArray, List.set_cons_zero, List.set_cons_succ]
  refine Seqw.light (v := ?_) (by kernel_rfl) ?_ ?_
  rotate_left 1
  focus (intro w hSw; (try dsimp only at hSw); go_simp; try with_reducible rfl)
  try simp only [Act.put, List.setIfInBounds_toArray, List.set_cons_zero, List.set_cons_succ]
  refine Seqw.light (v := ?_) (by kernel_rfl) ?_ ?_
  rotate_left 1
  focus (intro w hSw; (try dsimp only at hSw); go_simp; try with_reducible rfl)
  try simp only [Act.put, List.setIfInBounds_toArray, List.set_cons_zero, List.set_cons_succ]
  refine Seqw.light (v := ?_) (by kernel_rfl) ?_ ?_
  rotate_left 1
  focus (intro w hSw; (try dsimp only at hSw); go_simp; try with_reducible rfl)
  try simp only [Act.put, List.setIfInBounds_toArray, List.set_cons_zero, List.set_cons_succ]
  refine Seqw.nil fun w3 hS3 => ?_
  obtain ⟨d0, c0, c1, c2, c3, c4, c5, hb4⟩ := hS3
  have hz0 := hb4.block w.heap.size (by omega)
  have hz1 := hb4.block (w.heap.size + 1) (by omega)
  rw [alloc_old _ (alloc_old _ (heap_alloc_last w _))] at hz0
  rw [alloc_old _ (show ((w.alloc _).alloc _).heap[w.heap.size + 1]? = _ from by have := heap_alloc_last (w.alloc (.cells #[.int .i64 0, .int .i64 0, .int .i64 0, .int .i64 0, .int .i64 0, .slice none 0 0] 59)) (.cells #[.int .i64 0, .int .i64 0, .int .i64 0, .int .i64 0, .int .i64 0, .slice none 0 0] 59); rwa [show (w.alloc (.cells #[.int .i64 0, .int .i64 0, .int .i64 0, .int .i64 0, .int .i64 0, .slice none 0 0] 59)).heap.size = w.heap.size + 1 from by show (w.heap.push _).size = _; simp] at this)] at hz1
  obtain ⟨z0, z1, z2, z3, z4, z5⟩ := cells6 hz0
  obtain ⟨y0, y1, y2, y3, y4, y5⟩ := cells6 hz1
  have hfz : ∀ j, w3.frozen? ⟨w.heap.size, j, none⟩ = false := fun j => Lib.frozen_of_heap hz0 j
  have hwb := (((Below.refl w.heap.size w).alloc (Nat.le_refl _) (.cells #[.int .i64 0, .int .i64 0, .int .i64 0, .int .i64 0, .int .i64 0, .slice none 0 0] 59)).alloc (le_alloc (Nat.le_refl _) _) (.cells #[.int .i64 0, .int .i64 0, .int .i64 0, .int .i64 0, .int .i64 0, .slice none 0 0] 59)).alloc (le_alloc (le_alloc (Nat.le_refl _) _) _) (.cells #[.int .i64 f0, .int .i64 f1, .int .i64 f2, .int .i64 f3, .int .i64 f4, .slice none 0 0] 59)
  have HWB := Lib.hid (hwb.trans (hb4.mono (by omega)))
  clear hb4 hz0 hz1 hwb d0
  go_wp2
  refine bodyPost_ret (v := .tuple #[.agg #[.int .i64 f0, .int .i64 f1, .int .i64 f2, .int .i64 f3, .int .i64 f4, .slice none 0 0], .int .i64 (10 + n), .int .i64 0]) (by simp [results, Tryz.results44, go_sem, zb, *]) rfl ⟨rfl, ?_⟩
  exact (((((HWB.out.setCell (p := ⟨w.heap.size, 0, none⟩) (Nat.le_refl _) _).setCell (p := ⟨w.heap.size, 1, none⟩) (Nat.le_refl _) _).setCell (p := ⟨w.heap.size, 2, none⟩) (Nat.le_refl _) _).setCell (p := ⟨w.heap.size, 3, none⟩) (Nat.le_refl _) _).setCell (p := ⟨w.heap.size, 4, none⟩) (Nat.le_refl _) _).setCell (p := ⟨w.heap.size, 5, none⟩) (Nat.le_refl _) _
/-- a head that was read -/
structure Hd where
  base : Int
  count : Int
  view : Int
  producer : Int
  seq : Int
  n : Int
/-- what is summed -/
def sumd (l : List UInt8) : List UInt8 := (l.drop 10).take (nv l 2 4).toNat
def front (l : List UInt8) : Bool := decide (l.take 2 = [80, 66]) && (decide (29 ≤ nv l 2 4) && decide (nv l 2 4 ≤ 262144))
def fits (l : List UInt8) : Bool :=
  decide (nv l 6 4 = (crc (sumd l) : Int)) && (headed (nv (sumd l) 0 8) (nv (sumd l) 8 2) (nv (sumd l) 10 4) (nv (sumd l) 14 4) (nv (sumd l) 18 4) && decide (((sumd l).getD 22 0).toNat < 3))
def hdOf (l : List UInt8) : Hd := ⟨nv (sumd l) 0 8, nv (sumd l) 8 2, nv (sumd l) 10 4, nv (sumd l) 14 4, nv (sumd l) 18 4, 10 + nv l 2 4⟩
/-- the head that bytes begin with, or why there is none -/
def headErr (l : List UInt8) : Int :=
  if l.length < 10 then 5 else if front l = false then 100 else if (l.length : Int) < 10 + nv l 2 4 then 5 else if fits l = true then 0 else 100
def headVal (l : List UInt8) : Value :=
  if headErr l = 0 then .tuple #[.agg #[.int .i64 (hdOf l).base, .int .i64 (hdOf l).count, .int .i64 (hdOf l).view, .int .i64 (hdOf l).producer, .int .i64 (hdOf l).seq, .slice none 0 0], .int .i64 (hdOf l).n, .int .i64 0]
  else .tuple #[zb, .int .i64 0, .int .i64 (headErr l)]
theorem head_all (s : ByteArray) (w : World) (hsz : s.size ≤ 1099511627776) :
    Calls Tryz.prog 44 #[.string s] w fun e w' => e = .returned (headVal s.data.toList) ∧ Below w.heap.size w w' := by
  have hlen : s.data.toList.length = s.size := (size_data s).symm
  by_cases h10 : s.size < 10
  · have he : headErr s.data.toList = 5 := by unfold headErr; rw [if_pos (by omega)]
    unfold headVal
    rw [he, if_neg (by decide)]
    exact head_few s w h10
  have hex : (s.extract 0 2).toList = s.data.toList.take 2 := by rw [toList_data, extract_data]; simp
  cases hf : front s.data.toList with
  | false =>
    have he : headErr s.data.toList = 100 := by unfold headErr; rw [if_neg (by omega), if_pos hf]
    unfold headVal
    rw [he, if_neg (by decide)]
    refine head_front s w (by omega) hsz _ rfl ?_
    unfold front at hf
    rw [hex]
    simp only [Bool.and_eq_false_iff, decide_eq_false_iff_not] at hf
    rcases hf with h | h | h
    · exact .inl h
    · exact .inr (.inl (by omega))
    · exact .inr (.inr (by omega))
  | true =>
    have hf' := hf
    unfold front at hf'
    simp only [Bool.and_eq_true, decide_eq_true_eq] at hf'
    obtain ⟨f1, f2, f3⟩ := hf'
    rw [← hex] at f1
    by_cases hs : (s.data.toList.length : Int) < 10 + nv s.data.toList 2 4
    · have he : headErr s.data.toList = 5 := by unfold headErr; rw [if_neg (by omega), if_neg (by rw [hf]; decide), if_pos hs]
      unfold headVal
      rw [he, if_neg (by decide)]
      exact head_short s w (by omega) hsz _ rfl f1 f2 f3 (by omega)
    · have ht : (s.extract 10 (10 + nv s.data.toList 2 4).toNat).data.toList = sumd s.data.toList := by
        rw [extract_data]; unfold sumd
        rw [show (10 + nv s.data.toList 2 4).toNat - 10 = (nv s.data.toList 2 4).toNat from by omega]
      have ha := fun hl => head_crc s w (by omega) hsz _ rfl f1 f2 f3 hl _ rfl _ _ _ _ _ _ _ rfl rfl rfl rfl rfl rfl rfl
      have hb := fun hl => head_headed s w (by omega) hsz _ rfl f1 f2 f3 hl _ rfl _ _ _ _ _ _ _ rfl rfl rfl rfl rfl rfl rfl
      have hc := fun hl => head_codec s w (by omega) hsz _ rfl f1 f2 f3 hl _ rfl _ _ _ _ _ _ _ rfl rfl rfl rfl rfl rfl rfl
      have hd := fun hl => head_good s w (by omega) hsz _ rfl f1 f2 f3 hl _ rfl _ _ _ _ _ _ _ rfl rfl rfl rfl rfl rfl rfl
      rw [ht] at ha hb hc hd
      have hl : 10 + nv s.data.toList 2 4 ≤ (s.size : Int) := by omega
      cases hg : fits s.data.toList with
      | true =>
        have he : headErr s.data.toList = 0 := by unfold headErr; rw [if_neg (by omega), if_neg (by rw [hf]; decide), if_neg hs, if_pos hg]
        unfold headVal
        rw [if_pos he]
        unfold fits at hg
        simp only [Bool.and_eq_true, decide_eq_true_eq] at hg
        exact hd hl (by rw [hg.1]; simp) hg.2.1 _ rfl (by have := hg.2.2; omega)
      | false =>
        have he : headErr s.data.toList = 100 := by unfold headErr; rw [if_neg (by omega), if_neg (by rw [hf]; decide), if_neg hs, if_neg (by rw [hg]; decide)]
        unfold headVal
        rw [he, if_neg (by decide)]
        unfold fits at hg
        by_cases g1 : nv s.data.toList 6 4 = (crc (sumd s.data.toList) : Int)
        · rw [decide_eq_true g1, Bool.true_and] at hg
          cases g2 : headed (nv (sumd s.data.toList) 0 8) (nv (sumd s.data.toList) 8 2) (nv (sumd s.data.toList) 10 4) (nv (sumd s.data.toList) 14 4) (nv (sumd s.data.toList) 18 4) with
          | false => exact hb hl (by rw [g1]; simp) g2
          | true =>
            rw [g2, Bool.true_and, decide_eq_false_iff_not] at hg
            exact hc hl (by rw [g1]; simp) g2 _ rfl (by omega)
        · exact ha hl (by simp [g1])
end Go.Proofs.YtcioejacijkbcaaGreatDoor.Ba
