/- batch: Of. -/
import Derived.Test.YtcioejacijkbcaaGreatDoorBaD
import Derived.Test.YtcioejacijkbcaaGreatDoorRcD
import Derived.Test.YtcioejacijkbcaaGreatDoorRh
import Derived.Deep.Cut
namespace Go.Proofs.YtcioejacijkbcaaGreatDoor.Ba
open Go.RowKit Go.Maps Go.ChangeMaps Go.WideMaps Go.Proofs.YtcioejacijkbcaaGreatDoor.Su Go.Proofs.YtcioejacijkbcaaGreatDoor.Bt Go.Proofs.YtcioejacijkbcaaGreatDoor.Sb Go.Proofs.YtcioejacijkbcaaGreatDoor.Rc Go.Proofs.YtcioejacijkbcaaGreatDoor.Rg
set_option linter.unusedVariables false
set_option linter.unusedSimpArgs false
theorem head_val_no (l : List UInt8) (h : headErr l ≠ 0) : headVal l = .tuple #[zb, .int .i64 0, .int .i64 (headErr l)] := by unfold headVal; rw [if_neg h]
theorem head_val_ok (l : List UInt8) (h : headErr l = 0) : headVal l = .tuple #[.agg #[.int .i64 (hdOf l).base, .int .i64 (hdOf l).count, .int .i64 (hdOf l).view, .int .i64 (hdOf l).producer, .int .i64 (hdOf l).seq, .slice none 0 0], .int .i64 (hdOf l).n, .int .i64 0] := by unfold headVal; rw [if_pos h]
theorem below6 {w W : World} (h : Below w.heap.size w W) (v0 v1 v2 v3 v4 v5 : Value) : Below w.heap.size w ((((((W.setCell ⟨w.heap.size, 0, none⟩ v0).setCell ⟨w.heap.size, 1, none⟩ v1).setCell ⟨w.heap.size, 2, none⟩ v2).setCell ⟨w.heap.size, 3, none⟩ v3).setCell ⟨w.heap.size, 4, none⟩ v4).setCell ⟨w.heap.size, 5, none⟩ v5) :=
  (((((h.setCell (p := ⟨w.heap.size, 0, none⟩) (Nat.le_refl _) _).setCell (p := ⟨w.heap.size, 1, none⟩) (Nat.le_refl _) _).setCell (p := ⟨w.heap.size, 2, none⟩) (Nat.le_refl _) _).setCell (p := ⟨w.heap.size, 3, none⟩) (Nat.le_refl _) _).setCell (p := ⟨w.heap.size, 4, none⟩) (Nat.le_refl _) _).setCell (p := ⟨w.heap.size, 5, none⟩) (Nat.le_refl _) _
theorem size6 (W : World) (b : Nat) (v0 v1 v2 v3 v4 v5 : Value) : ((((((W.setCell ⟨b, 0, none⟩ v0).setCell ⟨b, 1, none⟩ v1).setCell ⟨b, 2, none⟩ v2).setCell ⟨b, 3, none⟩ v3).setCell ⟨b, 4, none⟩ v4).setCell ⟨b, 5, none⟩ v5).heap.size = W.heap.size := by
  simp only [set_size]
set_option maxRecDepth 100000 in
set_option maxHeartbeats 4000000 in
theorem of_nohead (s : ByteArray) (w : World) (hsz : s.size ≤ 1099511627776) (er : Int) (her : headErr s.data.toList = er) (h0 : er ≠ 0) :
    Calls Tryz.prog 23 #[.string s] w fun e w' => e = .returned (.tuple #[zb, .int .i64 0, .int .i64 er]) ∧ Below w.heap.size w w' := by
  have hv := head_val_no s.data.toList (by rw [her]; exact h0)
  rw [her] at hv
  unfold zb at hv
  have HV := Lib.hid hv
  have he1 : (er == 0) = false := beq_eq_false_iff_ne.2 h0
  have he2 : (er != 0) = true := by simp [h0]
  clear hv her h0
  go_enter Tryz.func23, Tryz.ntmps23
  go_wp2_with fail
  refine (head_all s _ hsz).mono ?_
  rintro e w1 ⟨rfl, hb1⟩
  rw [HV.out]
  have hz0 := (hb1.block w.heap.size (by show _ < (w.heap.push _).size; simp)).trans (heap_alloc_last w _)
  obtain ⟨z0, z1, z2, z3, z4, z5⟩ := cells6 hz0
  have hfz : ∀ j, w1.frozen? ⟨w.heap.size, j, none⟩ = false := fun j => Lib.frozen_of_heap hz0 j
  have hlt := lt_of_heap hz0
  have HW := Lib.hid (((Below.refl w.heap.size w).alloc (Nat.le_refl _) (.cells #[.int .i64 0, .int .i64 0, .int .i64 0, .int .i64 0, .int .i64 0, .slice none 0 0] 59)).trans (hb1.mono (le_alloc (Nat.le_refl _) _)))
  have HLT := Lib.hid hlt
  clear hb1
  clear hz0
  go_wp2
  refine bodyPost_ret (v := .tuple #[zb, .int .i64 0, .int .i64 er]) (by simp [results, Tryz.results23, go_sem, zb, *]) rfl ⟨rfl, ?_⟩
  exact Below.alloc (below6 HW.out _ _ _ _ _ _) (by rw [size6]; exact Nat.le_of_lt HLT.out) _
theorem RecsAt.other {w w' : World} {ap : Option Addr} {rs : List Rec} (h : RecsAt w ap rs) (hs : w'.heap.size = w.heap.size) {b : Nat} (hk : ∀ k, k ≠ b → w'.heap[k]? = w.heap[k]?) (hb : rs = [] ∨ ∀ a, ap = some a → a.block ≠ b) : RecsAt w' ap rs := by
  intro i hi
  rcases hb with rfl | hb
  · simp at hi
  obtain ⟨a, ha, hlt, h0, h1, h2, h3⟩ := h i hi
  have hne := hb a ha
  have hc : ∀ x : Addr, x.block = a.block → w'.cell? x = w.cell? x := fun x hx => by unfold World.cell?; rw [hk _ (by rw [hx]; exact hne)]
  exact ⟨a, ha, by rw [hs]; exact hlt, (hc _ (add_block' a _)).trans h0, (hc ⟨(a.add (i * 4)).block, _, none⟩ (add_block' a _)).trans h1, (hc ⟨(a.add (i * 4)).block, _, none⟩ (add_block' a _)).trans h2, (hc ⟨(a.add (i * 4)).block, _, none⟩ (add_block' a _)).trans h3⟩
theorem ofGo_length (base : Int) : ∀ (n : Nat) (nx : Int) (l : List UInt8) (rs : List Rec) (t : List UInt8), ofGo base n nx l = some (rs, t) → rs.length = n
  | 0, _, _, _, _, h => by cases h; rfl
  | n + 1, nx, l, rs, t, h => by
    rw [ofGo] at h
    split at h
    · cases hx : ofGo base n ((rd1 base l).1.o + 1) (rd1 base l).2.l with
      | none => rw [hx] at h; cases h
      | some r =>
        obtain ⟨rs', t'⟩ := r
        rw [hx] at h
        cases h
        rw [List.length_cons, ofGo_length base n _ _ _ _ hx]
    · cases h
theorem ofRecs_length {l : List UInt8} {base n : Int} {rs : List Rec} (h : ofRecs l base n = some rs) : (rs.length : Int) = n := by
  unfold ofRecs at h
  split at h
  · cases h
  · split at h
    · rename_i hx
      cases h
      have := ofGo_length _ _ _ _ _ _ hx
      omega
    · cases h
theorem RecsAt.set6 {w W : World} {ap : Option Addr} {rs : List Rec} (h : RecsAt W ap rs) (hb : ∀ a, ap = some a → w.heap.size < a.block) (v0 v1 v2 v3 v4 v5 : Value) :
    RecsAt ((((((W.setCell ⟨w.heap.size, 0, none⟩ v0).setCell ⟨w.heap.size, 1, none⟩ v1).setCell ⟨w.heap.size, 2, none⟩ v2).setCell ⟨w.heap.size, 3, none⟩ v3).setCell ⟨w.heap.size, 4, none⟩ v4).setCell ⟨w.heap.size, 5, none⟩ v5) ap rs :=
  RecsAt.other h (size6 _ _ _ _ _ _ _ _) (b := w.heap.size) (fun k hk => by rw [set_other _ _ _ _ hk, set_other _ _ _ _ hk, set_other _ _ _ _ hk, set_other _ _ _ _ hk, set_other _ _ _ _ hk, set_other _ _ _ _ hk]) (.inr fun a ha => Nat.ne_of_gt (hb a ha))
/-- what a good head says of the bytes -/
theorem head_ok {l : List UInt8} (h : headErr l = 0) : 29 ≤ nv l 2 4 ∧ nv l 2 4 ≤ 262144 ∧ 10 + nv l 2 4 ≤ (l.length : Int) ∧ fits l = true := by
  unfold headErr at h
  by_cases h1 : l.length < 10
  · rw [if_pos h1] at h; cases h
  rw [if_neg h1] at h
  cases hf : front l with
  | false => rw [if_pos hf] at h; cases h
  | true =>
    rw [if_neg (by rw [hf]; decide)] at h
    unfold front at hf
    simp only [Bool.and_eq_true, decide_eq_true_eq] at hf
    by_cases h2 : (l.length : Int) < 10 + nv l 2 4
    · rw [if_pos h2] at h; cases h
    rw [if_neg h2] at h
    cases hg : fits l with
    | false => rw [hg] at h; cases h
    | true => exact ⟨hf.2.1, hf.2.2, by omega, rfl⟩
theorem sumd_length {l : List UInt8} (h : headErr l = 0) : ((sumd l).length : Int) = nv l 2 4 := by
  obtain ⟨a, b, c, _⟩ := head_ok h
  unfold sumd
  rw [List.length_take, List.length_drop]
  omega
/-- the records of a body, as it was unpacked -/
def bodyOf (l : List UInt8) (p : ByteArray) (used er : Int) : Option (List Rec) :=
  if er = 0 ∧ used = (((sumd l).drop 29).length : Int) ∧ (p.size : Int) = nv (sumd l) 25 4 then
    match ofRecs p.data.toList (hdOf l).base (nv (sumd l) 23 2) with
    | some rs => if mayB (hdOf l).base (hdOf l).count (hdOf l).view (hdOf l).producer (hdOf l).seq rs = true then some rs else none
    | none => none
  else none
/-- what Of leaves behind a good head -/
def BodyPost (h : Hd) (rs? : Option (List Rec)) (w : World) (e : Ending) (w' : World) : Prop :=
  (∃ rs ap cap, rs? = some rs ∧ e = .returned (.tuple #[.agg #[.int .i64 h.base, .int .i64 h.count, .int .i64 h.view, .int .i64 h.producer, .int .i64 h.seq, .slice ap rs.length cap], .int .i64 h.n, .int .i64 0]) ∧ rs.length ≤ cap ∧ RecsAt w' ap rs ∧ Below w.heap.size w w') ∨
  (rs? = none ∧ e = .returned (.tuple #[zb, .int .i64 0, .int .i64 100]) ∧ Below w.heap.size w w')
set_option maxRecDepth 100000 in
set_option maxHeartbeats 4000000 in
theorem of_long (s : ByteArray) (w : World) (hsz : s.size ≤ 1099511627776) (h0 : headErr s.data.toList = 0) (hl : 1048576 < nv (sumd s.data.toList) 25 4) :
    Calls Tryz.prog 23 #[.string s] w fun e w' => e = .returned (.tuple #[zb, .int .i64 0, .int .i64 100]) ∧ Below w.heap.size w w' := by
  have HL := Lib.hid hl
  clear hl
  obtain ⟨g1, g2, g3, g4⟩ := head_ok h0
  have hnn : (hdOf s.data.toList).n = 10 + nv s.data.toList 2 4 := rfl
  have hsl : s.data.toList.length = s.size := (size_data s).symm
  have hte : (s.extract 10 (hdOf s.data.toList).n.toNat).data.toList = sumd s.data.toList := by
    rw [extract_data, hnn]; unfold sumd
    rw [show (10 + nv s.data.toList 2 4).toNat - 10 = (nv s.data.toList 2 4).toNat from by omega]
  have hts := sumd_length h0
  have hv := head_val_ok s.data.toList h0
  have HV := Lib.hid hv
  have hn1 : 39 ≤ (hdOf s.data.toList).n := by omega
  have hn2 : (hdOf s.data.toList).n ≤ (s.size : Int) := by omega
  have hn3 : (hdOf s.data.toList).n ≤ 262154 := by omega
  have HTE := Lib.hid hte
  have HTS := Lib.hid hts
  have HN := Lib.hid hnn
  have HH := Lib.hid h0
  clear hv h0 hte hts hnn g1 g2 g3 g4 hsl
  generalize hH : hdOf s.data.toList = H at *
  have HHD := Lib.hid hH
  clear hH
  obtain ⟨hbase, hcount, hview, hproducer, hseq, hn⟩ := H
  simp only at hn1 hn2 hn3
  go_enter Tryz.func23, Tryz.ntmps23
  go_wp2_with fail
  refine (head_all s _ hsz).mono ?_
  rintro e w1 ⟨rfl, hb1⟩
  rw [HV.out]
  have hz0 := (hb1.block w.heap.size (by show _ < (w.heap.push _).size; simp)).trans (heap_alloc_last w _)
  obtain ⟨z0, z1, z2, z3, z4, z5⟩ := cells6 hz0
  have hfz : ∀ j, w1.frozen? ⟨w.heap.size, j, none⟩ = false := fun j => Lib.frozen_of_heap hz0 j
  have hlt := lt_of_heap hz0
  have HW := Lib.hid (((Below.refl w.heap.size w).alloc (Nat.le_refl _) (.cells #[.int .i64 0, .int .i64 0, .int .i64 0, .int .i64 0, .int .i64 0, .slice none 0 0] 59)).trans (hb1.mono (le_alloc (Nat.le_refl _) _)))
  have HLT := Lib.hid hlt
  clear hb1
  have HZ0 := Lib.hid hz0
  clear hz0
  go_wp2_with fail
  generalize ht : s.extract 10 hn.toNat = t
  have htl : t.data.toList = sumd s.data.toList := by rw [← ht]; exact HTE.out
  have htz : t.size = (sumd s.data.toList).length := by rw [size_data, htl]
  have htb : t.size ≤ 262144 := by have := HTS.out; have := HN.out; omega
  have ht29 : 29 ≤ t.size := by have := HTS.out; have := HN.out; omega
  have HTL := Lib.hid htl
  clear ht htl htz
  refine (number_any _ t 25 4 25 4 rfl rfl (by decide) (by decide) (by omega) (by omega)).mono ?_
  rintro e w2 ⟨rfl, rfl⟩
  obtain ⟨n0, n1, hq⟩ := nv_small t.data.toList 25 4 (by decide)
  clear hq
  generalize hpn : nv t.data.toList 25 4 = pn at *
  have HPN := Lib.hid hpn
  clear hpn
  have hl : 1048576 < pn := by rw [← HPN.out, HTL.out]; exact HL.out
  go_wp2
  refine bodyPost_ret (v := .tuple #[zb, .int .i64 0, .int .i64 100]) (by simp [results, Tryz.results23, go_sem, zb, *]) rfl ⟨rfl, ?_⟩
  exact Below.alloc (below6 HW.out _ _ _ _ _ _) (by rw [size6]; exact Nat.le_of_lt HLT.out) _
set_option maxRecDepth 100000 in
set_option maxHeartbeats 4000000 in
theorem of_go0 (s : ByteArray) (w : World) (hsz : s.size ≤ 1099511627776) (h0 : headErr s.data.toList = 0) (hl : nv (sumd s.data.toList) 25 4 ≤ 1048576) (hcb : ((sumd s.data.toList).getD 22 0).toNat = 0) (U : ByteArray → Int → Int → Prop)
    (hp : ∀ W, Calls Tryz.prog 91 #[.string (str ((sumd s.data.toList).drop 29)), .int .i64 (nv (sumd s.data.toList) 25 4)] W fun e w' => ∃ p used er, e = .returned (.tuple #[.string p, .int .i64 used, .int .i64 er]) ∧ U p used er ∧ p.size ≤ 1099511627776 ∧ Below W.heap.size W w') :
    Calls Tryz.prog 23 #[.string s] w fun e w' => ∃ p used er, U p used er ∧ BodyPost (hdOf s.data.toList) (bodyOf s.data.toList p used er) w e w' := by
  have HL := Lib.hid hl
  have HP := Lib.hid hp
  have HCB := Lib.hid hcb
  clear hl hp hcb
  obtain ⟨g1, g2, g3, g4⟩ := head_ok h0
  have hnn : (hdOf s.data.toList).n = 10 + nv s.data.toList 2 4 := rfl
  have hsl : s.data.toList.length = s.size := (size_data s).symm
  have hte : (s.extract 10 (hdOf s.data.toList).n.toNat).data.toList = sumd s.data.toList := by
    rw [extract_data, hnn]; unfold sumd
    rw [show (10 + nv s.data.toList 2 4).toNat - 10 = (nv s.data.toList 2 4).toNat from by omega]
  have hts := sumd_length h0
  have hv := head_val_ok s.data.toList h0
  have HV := Lib.hid hv
  have hn1 : 39 ≤ (hdOf s.data.toList).n := by omega
  have hn2 : (hdOf s.data.toList).n ≤ (s.size : Int) := by omega
  have hn3 : (hdOf s.data.toList).n ≤ 262154 := by omega
  have HTE := Lib.hid hte
  have HTS := Lib.hid hts
  have HN := Lib.hid hnn
  have HH := Lib.hid h0
  clear hv h0 hte hts hnn g1 g2 g3 g4 hsl
  generalize hH : hdOf s.data.toList = H at *
  have HHD := Lib.hid hH
  clear hH
  obtain ⟨hbase, hcount, hview, hproducer, hseq, hn⟩ := H
  simp only at hn1 hn2 hn3
  go_enter Tryz.func23, Tryz.ntmps23
  go_wp2_with fail
  refine (head_all s _ hsz).mono ?_
  rintro e w1 ⟨rfl, hb1⟩
  rw [HV.out]
  have hz0 := (hb1.block w.heap.size (by show _ < (w.heap.push _).size; simp)).trans (heap_alloc_last w _)
  obtain ⟨z0, z1, z2, z3, z4, z5⟩ := cells6 hz0
  have hfz : ∀ j, w1.frozen? ⟨w.heap.size, j, none⟩ = false := fun j => Lib.frozen_of_heap hz0 j
  have hlt := lt_of_heap hz0
  have HW := Lib.hid (((Below.refl w.heap.size w).alloc (Nat.le_refl _) (.cells #[.int .i64 0, .int .i64 0, .int .i64 0, .int .i64 0, .int .i64 0, .slice none 0 0] 59)).trans (hb1.mono (le_alloc (Nat.le_refl _) _)))
  have HLT := Lib.hid hlt
  clear hb1
  have HZ0 := Lib.hid hz0
  clear hz0
  go_wp2_with fail
  generalize ht : s.extract 10 hn.toNat = t
  have htl : t.data.toList = sumd s.data.toList := by rw [← ht]; exact HTE.out
  have htz : t.size = (sumd s.data.toList).length := by rw [size_data, htl]
  have htb : t.size ≤ 262144 := by have := HTS.out; have := HN.out; omega
  have ht29 : 29 ≤ t.size := by have := HTS.out; have := HN.out; omega
  have HTL := Lib.hid htl
  clear ht htl htz
  refine (number_any _ t 25 4 25 4 rfl rfl (by decide) (by decide) (by omega) (by omega)).mono ?_
  rintro e w2 ⟨rfl, rfl⟩
  obtain ⟨n0, n1, hq⟩ := nv_small t.data.toList 25 4 (by decide)
  clear hq
  generalize hpn : nv t.data.toList 25 4 = pn at *
  have HPN := Lib.hid hpn
  clear hpn
  have hl : ¬ 1048576 < pn := by rw [← HPN.out, HTL.out]; have := HL.out; omega
  have hlt22 : 22 < t.size := by omega
  have hby : ((t[22]'hlt22).toNat : Int) = 0 := by rw [byte_at t 22 hlt22, HTL.out, HCB.out]; rfl
  have hi22 : (22 : Int) < (t.size : Int) := by omega
  go_upto_region 9 with (fail)
  have hzx : t.extract 29 t.size = str ((sumd s.data.toList).drop 29) := by
    apply ByteArray.ext; apply Array.ext'; rw [extract_rest, str_data, HTL.out]
  have hzl : ((sumd s.data.toList).drop 29).length = t.size - 29 := by rw [List.length_drop, size_data, HTL.out]
  have hp2 := HP.out
  rw [← HTL.out, HPN.out, HTL.out] at hp2
  rw [hzx]
  generalize hzz : (sumd s.data.toList).drop 29 = zl at *
  have HP2 := Lib.hid hp2
  have HZX := Lib.hid hzx
  have HZL := Lib.hid hzl
  have HZZ := Lib.hid hzz
  clear hp2 hzx hzl hzz HP
  have hq0 := alloc_old (.cells #[.int .i64 hbase, .int .i64 hcount, .int .i64 hview, .int .i64 hproducer, .int .i64 hseq, .slice none 0 0] 59) HZ0.out
  have hq1 := heap_alloc_last w1 (.cells #[.int .i64 hbase, .int .i64 hcount, .int .i64 hview, .int .i64 hproducer, .int .i64 hseq, .slice none 0 0] 59)
  have hq2 := HW.out.alloc HW.out.size (.cells #[.int .i64 hbase, .int .i64 hcount, .int .i64 hview, .int .i64 hproducer, .int .i64 hseq, .slice none 0 0] 59)
  generalize hb1e : w1.alloc (.cells #[.int .i64 hbase, .int .i64 hcount, .int .i64 hview, .int .i64 hproducer, .int .i64 hseq, .slice none 0 0] 59) = w2 at hq0 hq1 hq2 ⊢
  have HQ0 := Lib.hid hq0
  have HQ1 := Lib.hid hq1
  have HQ2 := Lib.hid hq2
  clear hb1e hq0 hq1 hq2 z0 z1 z2 z3 z4 z5 hfz
  refine wp_region_seqo [1, 2, 6, 7, 0, 3, 4, 5, 8, 9, 10, 11, 12, 13, 14, 15] (S := fun w' => Below w2.heap.size w2 w') (by kernel_rfl) (by kernel_rfl) ((Below.refl _ _).drew) ?_
  refine Seqo.light (v := ?_) rfl (by kernel_rfl) ?_ ?_
  rotate_left 1
  focus (intro w hSw; (try dsimp only at hSw); go_simp; try with_reducible rfl)
  try simp only [Act.put, List.setIfInBounds_toArray, List.set_cons_zero, List.set_cons_succ]
  refine Seqo.light (v := ?_) rfl (by kernel_rfl) ?_ ?_
  rotate_left 1
  focus (intro w hSw; (try dsimp only at hSw); go_simp; try with_reducible rfl)
  try simp only [Act.put, List.setIfInBounds_toArray, List.set_cons_zero, List.set_cons_succ]
  refine Seqo.light (v := ?_) rfl (by kernel_rfl) ?_ ?_
  rotate_left 1
  focus (intro w hSw; (try dsimp only at hSw); go_simp; try with_reducible rfl)
  try simp only [Act.put, List.setIfInBounds_toArray, List.set_cons_zero, List.set_cons_succ]
  refine Seqo.light (v := ?_) rfl (by kernel_rfl) ?_ ?_
  rotate_left 1
  focus (intro w hSw; (try dsimp only at hSw); go_simp; try with_reducible rfl)
  try simp only [Act.put, List.setIfInBounds_toArray, List.set_cons_zero, List.set_cons_succ]
  refine Seqo.callw (fun v => ∃ b, v = .slice (some ⟨b, 0, none⟩) 3 3) (fun v w' => Below w2.heap.size w2 w' ∧ ∀ b, v = .slice (some ⟨b, 0, none⟩) 3 3 → w'.cell? ⟨b, 1, none⟩ = some (cf 91)) rfl (by kernel_rfl) (by kernel_rfl) (fun w hSw => by (try dsimp only at hSw); go_simp; exact ⟨rfl, rfl⟩) ?_ (.inl fun v w h => h.1) ?_
  · intro w3 hSw
    refine (codecs w3).mono ?_
    rintro e w4 ⟨rfl, hw4⟩
    refine ⟨_, rfl, ⟨_, rfl⟩, by rw [hw4]; exact hSw.alloc hSw.size _, ?_⟩
    intro b hb
    cases hb
    rw [hw4, cell_of_row _ _ _ _ _ _ (heap_alloc_last _ _)]; rfl
  rintro v ⟨cb, rfl⟩
  try simp only [Act.put, List.setIfInBounds_toArray, List.set_cons_zero, List.set_cons_succ]
  refine Seqo.light (v := ?_) rfl (by kernel_rfl) ?_ ?_
  rotate_left 1
  focus (intro w hSw; (try dsimp only at hSw); go_simp; try with_reducible rfl)
  try simp only [Act.put, List.setIfInBounds_toArray, List.set_cons_zero, List.set_cons_succ]
  refine Seqo.light (v := ?_) rfl (by kernel_rfl) ?_ ?_
  rotate_left 1
  focus (intro w hSw; (try dsimp only at hSw); go_simp; try with_reducible rfl)
  try simp only [Act.put, List.setIfInBounds_toArray, List.set_cons_zero, List.set_cons_succ]
  refine Seqo.light (v := (Value.func (.func 91) #[] #[])) rfl (by kernel_rfl) ?_ ?_
  · intro w hSw
    have hc := hSw.2 _ rfl
    unfold cf at hc
    go_simp
    try rfl
  try simp only [Act.put, List.setIfInBounds_toArray, List.set_cons_zero, List.set_cons_succ]
  refine Seqo.callw (fun v => ∃ p used er, v = .tuple #[.string p, .int .i64 used, .int .i64 er] ∧ U p used er ∧ p.size ≤ 1099511627776) (fun _ w' => Below w2.heap.size w2 w') rfl (by kernel_rfl) (by kernel_rfl) (fun w hSw => by (try dsimp only at hSw); go_simp; exact ⟨rfl, rfl⟩) ?_ (.inr (by kernel_rfl)) ?_
  · intro w3 hSw
    refine (HP2.out w3).mono ?_
    rintro e w4 ⟨p, used, er, rfl, hU, hps, hb4⟩
    exact ⟨_, rfl, ⟨p, used, er, rfl, hU, hps⟩, hSw.1.trans (hb4.mono hSw.1.size)⟩
  rintro v ⟨p, used, er, rfl, hU, hps⟩
  try simp only [Act.put, List.setIfInBounds_toArray, List.set_cons_zero, List.set_cons_succ]
  refine Seqo.light (v := ?_) rfl (by kernel_rfl) ?_ ?_
  rotate_left 1
  focus (intro w hSw; (try dsimp only at hSw); go_simp; try with_reducible rfl)
  try simp only [Act.put, List.setIfInBounds_toArray, List.set_cons_zero, List.set_cons_succ]
  refine Seqo.light (v := ?_) rfl (by kernel_rfl) ?_ ?_
  rotate_left 1
  focus (intro w hSw; (try dsimp only at hSw); go_simp; try with_reducible rfl)
  try simp only [Act.put, List.setIfInBounds_toArray, List.set_cons_zero, List.set_cons_succ]
  refine Seqo.light (v := ?_) rfl (by kernel_rfl) ?_ ?_
  rotate_left 1
  focus (intro w hSw; (try dsimp only at hSw); go_simp; try with_reducible rfl)
  try simp only [Act.put, List.setIfInBounds_toArray, List.set_cons_zero, List.set_cons_succ]
  refine Seqo.light (v := ?_) rfl (by kernel_rfl) ?_ ?_
  rotate_left 1
  focus (intro w hSw; (try dsimp only at hSw); go_simp; try with_reducible rfl)
  try simp only [Act.put, List.setIfInBounds_toArray, List.set_cons_zero, List.set_cons_succ]
  refine Seqo.light (v := ?_) rfl (by kernel_rfl) ?_ ?_
  rotate_left 1
  focus (intro w hSw; (try dsimp only at hSw); go_simp; try with_reducible rfl)
  try simp only [Act.put, List.setIfInBounds_toArray, List.set_cons_zero, List.set_cons_succ]
  refine Seqo.light (v := ?_) rfl (by kernel_rfl) ?_ ?_
  rotate_left 1
  focus (intro w hSw; (try dsimp only at hSw); go_simp; try with_reducible rfl)
  try simp only [Act.put, List.setIfInBounds_toArray, List.set_cons_zero, List.set_cons_succ]
  refine Seqo.light (v := ?_) rfl (by kernel_rfl) ?_ ?_
  rotate_left 1
  focus (intro w hSw; (try dsimp only at hSw); go_simp; try with_reducible rfl)
  try simp only [Act.put, List.setIfInBounds_toArray, List.set_cons_zero, List.set_cons_succ]
  refine Seqo.nil fun w3 hS3 => ?_
  have HB3 := Lib.hid hS3
  have HU := Lib.hid hU
  have hS3' : Below w2.heap.size w2 w3 := hS3
  have hr0 : w3.heap[w.heap.size]? = some (.cells #[.int .i64 0, .int .i64 0, .int .i64 0, .int .i64 0, .int .i64 0, .slice none 0 0] 59 (0, 0)) := (hS3'.block _ (lt_of_heap HQ0.out)).trans HQ0.out
  have hr1 : w3.heap[w1.heap.size]? = some (.cells #[.int .i64 hbase, .int .i64 hcount, .int .i64 hview, .int .i64 hproducer, .int .i64 hseq, .slice none 0 0] 59 (0, 0)) := (hS3'.block _ (lt_of_heap HQ1.out)).trans HQ1.out
  have hlt3 := lt_of_heap hr0
  have HW3 := Lib.hid (HQ2.out.trans (hS3'.mono HQ2.out.size))
  have HLT3 := Lib.hid hlt3
  have HR0 := Lib.hid hr0
  have HR1 := Lib.hid hr1
  obtain ⟨z0, z1, z2, z3, z4, z5⟩ := cells6 hr0
  obtain ⟨y0, y1, y2, y3, y4, y5⟩ := cells6 hr1
  have hfz : ∀ j, w3.frozen? ⟨w.heap.size, j, none⟩ = false := fun j => Lib.frozen_of_heap hr0 j
  have hfy : ∀ j, w3.frozen? ⟨w1.heap.size, j, none⟩ = false := fun j => Lib.frozen_of_heap hr1 j
  clear hS3 hS3' hU hr0 hr1 hlt3
  have hbad : ¬ (er = 0 ∧ used = (zl.length : Int) ∧ (p.size : Int) = pn) → bodyOf s.data.toList p used er = none := fun hn => by
    unfold bodyOf
    rw [if_neg (by rw [HZZ.out, ← HTL.out, HPN.out]; exact hn)]
  have HBAD := Lib.hid hbad
  clear hbad
  by_cases he : er = 0
  · subst he
    have hzs : ((str zl).size : Int) = (zl.length : Int) := by rw [str_size]
    by_cases hu : used = (zl.length : Int)
    · have hu1 : (used == ((str zl).size : Int)) = true := beq_iff_eq.2 (by rw [hzs]; exact hu)
      have hu2 : (used != ((str zl).size : Int)) = false := by rw [bne, hu1]; rfl
      by_cases hpz : (p.size : Int) = pn
      · have hp1 : ((p.size : Int) == pn) = true := beq_iff_eq.2 hpz
        have hp2 : ((p.size : Int) != pn) = false := by rw [bne, hp1]; rfl
        have HGOOD := Lib.hid (show (0 : Int) = 0 ∧ used = (zl.length : Int) ∧ (p.size : Int) = pn from ⟨rfl, hu, hpz⟩)
        clear hu hpz hzs
        go_upto_region 12 with (fail)
        have hr0 := HR0.out
        have hr1 := HR1.out
        have hw3 := HW3.out
        have hnr0 := (nv_small t.data.toList 23 2 (by decide)).1
        have hnr1 : nv t.data.toList 23 2 ≤ 65535 := by
          rw [(nv_small t.data.toList 23 2 (by decide)).2.2]
          have h := num_lt ((t.data.toList.drop 23).take 2)
          have h2 : 256 ^ ((t.data.toList.drop 23).take 2).length ≤ 256 ^ 2 := Nat.pow_le_pow_right (by decide) (by rw [List.length_take]; omega)
          omega
        generalize hnr : nv t.data.toList 23 2 = nr at *
        have HNR := Lib.hid hnr
        clear hnr
        refine wp_region_seqo [0, 1, 2, 3, 4, 5, 6, 7, 8, 9, 10, 11] (S := (fun w' => w'.heap[w.heap.size]? = some (.cells #[.int .i64 0, .int .i64 0, .int .i64 0, .int .i64 0, .int .i64 0, .slice none 0 0] 59 (0, 0)) ∧ (∃ x5 : Value, w'.heap[w1.heap.size]? = some (.cells #[.int .i64 hbase, .int .i64 hcount, .int .i64 hview, .int .i64 hproducer, .int .i64 hseq, x5] 59 (0, 0))) ∧ w'.cell? ⟨w1.heap.size, 0, none⟩ = some (.int .i64 hbase) ∧ Below w.heap.size w w')) (by kernel_rfl) (by kernel_rfl) ⟨hr0, ⟨_, hr1⟩, y0, hw3.drew⟩ ?_
        have HNE := Lib.hid (show w.heap.size ≠ w1.heap.size from by have := HLT.out; omega)
        have HLE := HLT
        clear hr0 hr1 hw3
        refine Seqo.light (v := ?_) rfl (by kernel_rfl) ?_ ?_
        rotate_left 1
        focus (intro w hSw; (try dsimp only at hSw); go_simp; try with_reducible rfl)
        try simp only [Act.put, List.setIfInBounds_toArray, List.set_cons_zero, List.set_cons_succ]
        refine Seqo.light (v := ?_) rfl (by kernel_rfl) ?_ ?_
        rotate_left 1
        focus (intro w hSw; (try dsimp only at hSw); go_simp; try with_reducible rfl)
        try simp only [Act.put, List.setIfInBounds_toArray, List.set_cons_zero, List.set_cons_succ]
        refine Seqo.light (v := ?_) rfl (by kernel_rfl) ?_ ?_
        rotate_left 1
        focus (intro w hSw; (try dsimp only at hSw); go_simp; try with_reducible rfl)
        try simp only [Act.put, List.setIfInBounds_toArray, List.set_cons_zero, List.set_cons_succ]
        refine Seqo.light (v := ?_) rfl (by kernel_rfl) ?_ ?_
        rotate_left 1
        focus (intro w hSw; (try dsimp only at hSw); go_simp; try with_reducible rfl)
        try simp only [Act.put, List.setIfInBounds_toArray, List.set_cons_zero, List.set_cons_succ]
        refine Seqo.call (.int .i64 nr) rfl (by kernel_rfl) (by kernel_rfl) (fun w hSw => by (try dsimp only at hSw); go_simp; exact ⟨rfl, rfl⟩) ?_ ?_
        · intro w4 hSw
          refine (number_any w4 t 23 2 23 2 rfl rfl (by decide) (by decide) (by omega) (by omega)).mono ?_
          rintro e w5 ⟨rfl, rfl⟩
          exact ⟨by rw [HNR.out], hSw⟩
        try simp only [Act.put, List.setIfInBounds_toArray, List.set_cons_zero, List.set_cons_succ]
        refine Seqo.callw (fun v => (∃ rs ap cap, ofRecs p.data.toList hbase nr = some rs ∧ v = .tuple #[.slice ap rs.length cap, .int .i64 0] ∧ rs.length ≤ cap) ∨ (ofRecs p.data.toList hbase nr = none ∧ v = .tuple #[.slice none 0 0, .int .i64 90])) (fun v w' => (w'.heap[w.heap.size]? = some (.cells #[.int .i64 0, .int .i64 0, .int .i64 0, .int .i64 0, .int .i64 0, .slice none 0 0] 59 (0, 0)) ∧ (∃ x5 : Value, w'.heap[w1.heap.size]? = some (.cells #[.int .i64 hbase, .int .i64 hcount, .int .i64 hview, .int .i64 hproducer, .int .i64 hseq, x5] 59 (0, 0))) ∧ w'.cell? ⟨w1.heap.size, 0, none⟩ = some (.int .i64 hbase) ∧ Below w.heap.size w w') ∧ ∀ rs ap cap, ofRecs p.data.toList hbase nr = some rs → v = .tuple #[.slice ap rs.length cap, .int .i64 0] → RecsAt w' ap rs ∧ ∀ a, ap = some a → w1.heap.size < a.block) rfl (by kernel_rfl) (by kernel_rfl) (fun w hSw => by (try dsimp only at hSw); go_simp; exact ⟨rfl, rfl⟩) ?_ (.inl fun v w h => h.1) ?_
        · intro w4 hSw
          refine (of_all p hbase nr w4 hps (by omega)).mono ?_
          intro e w5 hpost
          obtain ⟨d0, ⟨x5, d1⟩, d2, d5⟩ := hSw
          have hkeep : ∀ hb5 : Below w4.heap.size w4 w5, w5.heap[w.heap.size]? = some (.cells #[.int .i64 0, .int .i64 0, .int .i64 0, .int .i64 0, .int .i64 0, .slice none 0 0] 59 (0, 0)) ∧ (∃ x5 : Value, w5.heap[w1.heap.size]? = some (.cells #[.int .i64 hbase, .int .i64 hcount, .int .i64 hview, .int .i64 hproducer, .int .i64 hseq, x5] 59 (0, 0))) ∧ w5.cell? ⟨w1.heap.size, 0, none⟩ = some (.int .i64 hbase) ∧ Below w.heap.size w w5 := fun hb5 => by
            have e1 := (hb5.block _ (lt_of_heap d1)).trans d1
            obtain ⟨x0, _⟩ := cells6 e1
            exact ⟨(hb5.block _ (lt_of_heap d0)).trans d0, ⟨_, e1⟩, x0, d5.trans (hb5.mono d5.size)⟩
          rcases hpost with ⟨rs, ap, cap, h1, rfl, h2, h3, h4, h5b⟩ | ⟨h1, rfl, h4⟩
          · refine ⟨_, rfl, .inl ⟨rs, ap, cap, h1, rfl, h2⟩, hkeep h4, fun rs' ap' cap' h5 h6 => ?_⟩
            rw [h1] at h5
            cases h5
            cases h6
            exact ⟨h3, fun a ha => by have := h5b a ha; have := lt_of_heap d1; omega⟩
          · refine ⟨_, rfl, .inr ⟨h1, rfl⟩, hkeep h4, fun rs' ap' cap' h5 _ => ?_⟩
            rw [h1] at h5; cases h5
        rintro v (⟨rs, ap, cap, hrs, rfl, hcap⟩ | ⟨hrs, rfl⟩)
        · try simp only [Act.put, List.setIfInBounds_toArray, List.set_cons_zero, List.set_cons_succ]
          refine Seqo.light (v := ?_) rfl (by kernel_rfl) ?_ ?_
          rotate_left 1
          focus (intro w hSw; (try dsimp only at hSw); go_simp; try with_reducible rfl)
          try simp only [Act.put, List.setIfInBounds_toArray, List.set_cons_zero, List.set_cons_succ]
          refine Seqo.light (v := ?_) rfl (by kernel_rfl) ?_ ?_
          rotate_left 1
          focus (intro w hSw; (try dsimp only at hSw); go_simp; try with_reducible rfl)
          try simp only [Act.put, List.setIfInBounds_toArray, List.set_cons_zero, List.set_cons_succ]
          refine Seqo.light (v := ?_) rfl (by kernel_rfl) ?_ ?_
          rotate_left 1
          focus (intro w hSw; (try dsimp only at hSw); go_simp; try with_reducible rfl)
          try simp only [Act.put, List.setIfInBounds_toArray, List.set_cons_zero, List.set_cons_succ]
          refine Seqo.light (v := ?_) rfl (by kernel_rfl) ?_ ?_
          rotate_left 1
          focus (intro w hSw; (try dsimp only at hSw); go_simp; try with_reducible rfl)
          try simp only [Act.put, List.setIfInBounds_toArray, List.set_cons_zero, List.set_cons_succ]
          refine Seqo.storew (fun w' => (w'.heap[w.heap.size]? = some (.cells #[.int .i64 0, .int .i64 0, .int .i64 0, .int .i64 0, .int .i64 0, .slice none 0 0] 59 (0, 0)) ∧ (∃ x5 : Value, w'.heap[w1.heap.size]? = some (.cells #[.int .i64 hbase, .int .i64 hcount, .int .i64 hview, .int .i64 hproducer, .int .i64 hseq, x5] 59 (0, 0))) ∧ w'.cell? ⟨w1.heap.size, 0, none⟩ = some (.int .i64 hbase) ∧ Below w.heap.size w w') ∧ w'.heap[w1.heap.size]? = some (.cells #[.int .i64 hbase, .int .i64 hcount, .int .i64 hview, .int .i64 hproducer, .int .i64 hseq, .slice ap rs.length cap] 59 (0, 0)) ∧ RecsAt w' ap rs ∧ ∀ a, ap = some a → w1.heap.size < a.block) rfl (by kernel_rfl) (by kernel_rfl) ?_ (.inl fun w h => ⟨h.1, fun rs' ap' cap' h5 h6 => by rw [hrs] at h5; cases h5; cases h6; exact ⟨h.2.2.1, h.2.2.2⟩⟩) ?_
          · intro w4 hSw
            obtain ⟨⟨d0, ⟨x5, d1⟩, d2, d5⟩, d6⟩ := hSw
            obtain ⟨e0, e1, e2, e3, e4, e5⟩ := cells6 d1
            have ef := Lib.frozen_of_heap d1 5
            have D6 := Lib.hid d6
            have D1 := Lib.hid d1
            have D0 := Lib.hid d0
            have D5 := Lib.hid d5
            clear d6 d1 d0 d5
            refine ⟨w4.setCell ⟨w1.heap.size, 5, none⟩ (.slice ap rs.length cap), by go_simp, ⟨?_, ?_, ?_, ?_⟩, ?_, ?_⟩
            · rw [set_other _ _ _ _ HNE.out]; exact D0.out
            · exact ⟨_, (set_cells _ D1.out).trans rfl⟩
            · rw [cell_of_row _ _ _ _ _ _ ((set_cells (.slice ap rs.length cap) D1.out).trans rfl)]; rfl
            · exact D5.out.setCell (p := ⟨w1.heap.size, 5, none⟩) (Nat.le_of_lt HLE.out) _
            · exact (set_cells _ D1.out).trans rfl
            · exact ⟨RecsAt.other (D6.out rs ap cap hrs rfl).1 (set_size _ _ _) (fun k hk => set_other _ _ _ _ hk) (.inr fun a ha => Nat.ne_of_gt ((D6.out rs ap cap hrs rfl).2 a ha)), (D6.out rs ap cap hrs rfl).2⟩
          try simp only [Act.put, List.setIfInBounds_toArray, List.set_cons_zero, List.set_cons_succ]
          refine Seqo.light (v := ?_) rfl (by kernel_rfl) ?_ ?_
          rotate_left 1
          focus (intro w hSw; (try dsimp only at hSw); go_simp; try with_reducible rfl)
          try simp only [Act.put, List.setIfInBounds_toArray, List.set_cons_zero, List.set_cons_succ]
          refine Seqo.nil fun w4 hS4 => ?_
          obtain ⟨⟨d0, _, _, d5⟩, d1, d6⟩ := hS4
          obtain ⟨z0, z1, z2, z3, z4, z5⟩ := cells6 d0
          obtain ⟨y0, y1, y2, y3, y4, y5⟩ := cells6 d1
          have hfz : ∀ j, w4.frozen? ⟨w.heap.size, j, none⟩ = false := fun j => Lib.frozen_of_heap d0 j
          have HD0 := Lib.hid d0
          have HD1 := Lib.hid d1
          have HD5 := Lib.hid d5
          have HD6 := Lib.hid d6
          have HRS := Lib.hid hrs
          have hbo : bodyOf s.data.toList p used 0 = (match (some rs : Option (List Rec)) with | some rs => if mayB hbase hcount hview hproducer hseq rs = true then some rs else none | none => none) := by
            unfold bodyOf
            rw [if_pos (by rw [HZZ.out, ← HTL.out, HPN.out]; exact HGOOD.out), ← HTL.out, HNR.out, HHD.out]
            simp only
            rw [HRS.out]
          have HBO := Lib.hid hbo
          clear hbo d0 d1 d5 d6 hrs
          have hrl : rs.length ≤ 1048576 := by have := ofRecs_length HRS.out; omega
          have HRL := Lib.hid hrl
          have HCAP := Lib.hid hcap
          clear hrl hcap
          go_wp2_with fail
          refine (check_any hbase hcount hview hproducer hseq ap cap rs w4 HD6.out.1 HRL.out).mono ?_
          rintro e w5 ⟨rfl, hb5⟩
          have hd0 := (hb5.block _ (lt_of_heap HD0.out)).trans HD0.out
          have hd1 := (hb5.block _ (lt_of_heap HD1.out)).trans HD1.out
          have HR5 := Lib.hid (HD6.out.1.below hb5)
          have HW5 := Lib.hid (HD5.out.trans (hb5.mono HD5.out.size))
          clear z0 z1 z2 z3 z4 z5 y0 y1 y2 y3 y4 y5 hfz hb5
          obtain ⟨z0, z1, z2, z3, z4, z5⟩ := cells6 hd0
          obtain ⟨y0, y1, y2, y3, y4, y5⟩ := cells6 hd1
          have hfz : ∀ j, w5.frozen? ⟨w.heap.size, j, none⟩ = false := fun j => Lib.frozen_of_heap hd0 j
          clear hd0 hd1
          cases hmb : mayB hbase hcount hview hproducer hseq rs with
          | true =>
            have HNO := Lib.hid (show bodyOf s.data.toList p used 0 = some rs from by rw [HBO.out]; simp only [hmb, if_true])
            have HHH := Lib.hid (show ∀ a, ap = some a → w.heap.size < a.block from fun a ha => by have := HD6.out.2 a ha; have := HLE.out; omega)
            rw [chk_yes rfl]
            clear hmb
            go_wp2
            refine bodyPost_ret (v := .tuple #[.agg #[.int .i64 hbase, .int .i64 hcount, .int .i64 hview, .int .i64 hproducer, .int .i64 hseq, .slice ap rs.length cap], .int .i64 hn, .int .i64 0]) (by simp [results, Tryz.results23, go_sem, zb, *]) rfl ⟨p, used, 0, HU.out, .inl ⟨rs, ap, cap, HNO.out, by rfl, HCAP.out, RecsAt.set6 HR5.out HHH.out _ _ _ _ _ _, below6 HW5.out _ _ _ _ _ _⟩⟩
          | false =>
            have HNO := Lib.hid (show bodyOf s.data.toList p used 0 = none from by rw [HBO.out]; simp only [hmb]; rfl)
            rw [chk_no rfl]
            clear hmb
            go_wp2
            refine bodyPost_ret (v := .tuple #[zb, .int .i64 0, .int .i64 100]) (by simp [results, Tryz.results23, go_sem, zb, *]) rfl ⟨p, used, 0, HU.out, .inr ⟨HNO.out, rfl, below6 HW5.out _ _ _ _ _ _⟩⟩
        · try simp only [Act.put, List.setIfInBounds_toArray, List.set_cons_zero, List.set_cons_succ]
          refine Seqo.light (v := ?_) rfl (by kernel_rfl) ?_ ?_
          rotate_left 1
          focus (intro w hSw; (try dsimp only at hSw); go_simp; try with_reducible rfl)
          try simp only [Act.put, List.setIfInBounds_toArray, List.set_cons_zero, List.set_cons_succ]
          refine Seqo.light (v := ?_) rfl (by kernel_rfl) ?_ ?_
          rotate_left 1
          focus (intro w hSw; (try dsimp only at hSw); go_simp; try with_reducible rfl)
          try simp only [Act.put, List.setIfInBounds_toArray, List.set_cons_zero, List.set_cons_succ]
          refine Seqo.light (v := ?_) rfl (by kernel_rfl) ?_ ?_
          rotate_left 1
          focus (intro w hSw; (try dsimp only at hSw); go_simp; try with_reducible rfl)
          try simp only [Act.put, List.setIfInBounds_toArray, List.set_cons_zero, List.set_cons_succ]
          refine Seqo.light (v := ?_) rfl (by kernel_rfl) ?_ ?_
          rotate_left 1
          focus (intro w hSw; (try dsimp only at hSw); go_simp; try with_reducible rfl)
          try simp only [Act.put, List.setIfInBounds_toArray, List.set_cons_zero, List.set_cons_succ]
          refine Seqo.storew (fun w' => (w'.heap[w.heap.size]? = some (.cells #[.int .i64 0, .int .i64 0, .int .i64 0, .int .i64 0, .int .i64 0, .slice none 0 0] 59 (0, 0)) ∧ (∃ x5 : Value, w'.heap[w1.heap.size]? = some (.cells #[.int .i64 hbase, .int .i64 hcount, .int .i64 hview, .int .i64 hproducer, .int .i64 hseq, x5] 59 (0, 0))) ∧ w'.cell? ⟨w1.heap.size, 0, none⟩ = some (.int .i64 hbase) ∧ Below w.heap.size w w') ∧ w'.heap[w1.heap.size]? = some (.cells #[.int .i64 hbase, .int .i64 hcount, .int .i64 hview, .int .i64 hproducer, .int .i64 hseq, .slice none 0 0] 59 (0, 0)) ∧ True) rfl (by kernel_rfl) (by kernel_rfl) ?_ (.inl fun w h => ⟨h.1, fun rs' ap' cap' h5 _ => by rw [hrs] at h5; cases h5⟩) ?_
          · intro w4 hSw
            obtain ⟨⟨d0, ⟨x5, d1⟩, d2, d5⟩, d6⟩ := hSw
            obtain ⟨e0, e1, e2, e3, e4, e5⟩ := cells6 d1
            have ef := Lib.frozen_of_heap d1 5
            have D6 := Lib.hid d6
            have D1 := Lib.hid d1
            have D0 := Lib.hid d0
            have D5 := Lib.hid d5
            clear d6 d1 d0 d5
            refine ⟨w4.setCell ⟨w1.heap.size, 5, none⟩ (.slice none 0 0), by go_simp, ⟨?_, ?_, ?_, ?_⟩, ?_, ?_⟩
            · rw [set_other _ _ _ _ HNE.out]; exact D0.out
            · exact ⟨_, (set_cells _ D1.out).trans rfl⟩
            · rw [cell_of_row _ _ _ _ _ _ ((set_cells (.slice none 0 0) D1.out).trans rfl)]; rfl
            · exact D5.out.setCell (p := ⟨w1.heap.size, 5, none⟩) (Nat.le_of_lt HLE.out) _
            · exact (set_cells _ D1.out).trans rfl
            · trivial
          try simp only [Act.put, List.setIfInBounds_toArray, List.set_cons_zero, List.set_cons_succ]
          refine Seqo.light (v := ?_) rfl (by kernel_rfl) ?_ ?_
          rotate_left 1
          focus (intro w hSw; (try dsimp only at hSw); go_simp; try with_reducible rfl)
          try simp only [Act.put, List.setIfInBounds_toArray, List.set_cons_zero, List.set_cons_succ]
          refine Seqo.nil fun w4 hS4 => ?_
          obtain ⟨⟨d0, _, _, d5⟩, d1, d6⟩ := hS4
          obtain ⟨z0, z1, z2, z3, z4, z5⟩ := cells6 d0
          obtain ⟨y0, y1, y2, y3, y4, y5⟩ := cells6 d1
          have hfz : ∀ j, w4.frozen? ⟨w.heap.size, j, none⟩ = false := fun j => Lib.frozen_of_heap d0 j
          have HD0 := Lib.hid d0
          have HD1 := Lib.hid d1
          have HD5 := Lib.hid d5
          have HD6 := Lib.hid d6
          have HRS := Lib.hid hrs
          have hbo : bodyOf s.data.toList p used 0 = (match (none : Option (List Rec)) with | some rs => if mayB hbase hcount hview hproducer hseq rs = true then some rs else none | none => none) := by
            unfold bodyOf
            rw [if_pos (by rw [HZZ.out, ← HTL.out, HPN.out]; exact HGOOD.out), ← HTL.out, HNR.out, HHD.out]
            simp only
            rw [HRS.out]
          have HBO := Lib.hid hbo
          clear hbo d0 d1 d5 d6 hrs
          have HNO := Lib.hid (show bodyOf s.data.toList p used 0 = none from by rw [HBO.out])
          go_wp2
          refine bodyPost_ret (v := .tuple #[zb, .int .i64 0, .int .i64 100]) (by simp [results, Tryz.results23, go_sem, zb, *]) rfl ⟨p, used, 0, HU.out, .inr ⟨HNO.out, rfl, below6 HD5.out _ _ _ _ _ _⟩⟩
      · have hp1 : ((p.size : Int) == pn) = false := beq_eq_false_iff_ne.2 hpz
        have hp2 : ((p.size : Int) != pn) = true := by rw [bne, hp1]; rfl
        have HNO := Lib.hid (HBAD.out (fun h => hpz h.2.2))
        clear hu hpz hzs
        go_wp2
        refine bodyPost_ret (v := .tuple #[zb, .int .i64 0, .int .i64 100]) (by simp [results, Tryz.results23, go_sem, zb, *]) rfl ⟨p, used, 0, HU.out, .inr ⟨HNO.out, rfl, below6 HW3.out _ _ _ _ _ _⟩⟩
    · have hu1 : (used == ((str zl).size : Int)) = false := beq_eq_false_iff_ne.2 (by rw [hzs]; exact hu)
      have hu2 : (used != ((str zl).size : Int)) = true := by rw [bne, hu1]; rfl
      have HNO := Lib.hid (HBAD.out (fun h => hu h.2.1))
      clear hu hzs
      go_wp2
      refine bodyPost_ret (v := .tuple #[zb, .int .i64 0, .int .i64 100]) (by simp [results, Tryz.results23, go_sem, zb, *]) rfl ⟨p, used, 0, HU.out, .inr ⟨HNO.out, rfl, below6 HW3.out _ _ _ _ _ _⟩⟩
  · have he1 : (er == 0) = false := beq_eq_false_iff_ne.2 he
    have he2 : (er != 0) = true := by simp [he]
    have HNO := Lib.hid (HBAD.out (fun h => he h.1))
    clear he
    go_wp2
    refine bodyPost_ret (v := .tuple #[zb, .int .i64 0, .int .i64 100]) (by simp [results, Tryz.results23, go_sem, zb, *]) rfl ⟨p, used, er, HU.out, .inr ⟨HNO.out, rfl, below6 HW3.out _ _ _ _ _ _⟩⟩
set_option maxRecDepth 100000 in
set_option maxHeartbeats 4000000 in
theorem of_go1 (s : ByteArray) (w : World) (hsz : s.size ≤ 1099511627776) (h0 : headErr s.data.toList = 0) (hl : nv (sumd s.data.toList) 25 4 ≤ 1048576) (hcb : ((sumd s.data.toList).getD 22 0).toNat = 1) (U : ByteArray → Int → Int → Prop)
    (hp : ∀ W, Calls Tryz.prog 93 #[.string (str ((sumd s.data.toList).drop 29)), .int .i64 (nv (sumd s.data.toList) 25 4)] W fun e w' => ∃ p used er, e = .returned (.tuple #[.string p, .int .i64 used, .int .i64 er]) ∧ U p used er ∧ p.size ≤ 1099511627776 ∧ Below W.heap.size W w') :
    Calls Tryz.prog 23 #[.string s] w fun e w' => ∃ p used er, U p used er ∧ BodyPost (hdOf s.data.toList) (bodyOf s.data.toList p used er) w e w' := by
  have HL := Lib.hid hl
  have HP := Lib.hid hp
  have HCB := Lib.hid hcb
  clear hl hp hcb
  obtain ⟨g1, g2, g3, g4⟩ := head_ok h0
  have hnn : (hdOf s.data.toList).n = 10 + nv s.data.toList 2 4 := rfl
  have hsl : s.data.toList.length = s.size := (size_data s).symm
  have hte : (s.extract 10 (hdOf s.data.toList).n.toNat).data.toList = sumd s.data.toList := by
    rw [extract_data, hnn]; unfold sumd
    rw [show (10 + nv s.data.toList 2 4).toNat - 10 = (nv s.data.toList 2 4).toNat from by omega]
  have hts := sumd_length h0
  have hv := head_val_ok s.data.toList h0
  have HV := Lib.hid hv
  have hn1 : 39 ≤ (hdOf s.data.toList).n := by omega
  have hn2 : (hdOf s.data.toList).n ≤ (s.size : Int) := by omega
  have hn3 : (hdOf s.data.toList).n ≤ 262154 := by omega
  have HTE := Lib.hid hte
  have HTS := Lib.hid hts
  have HN := Lib.hid hnn
  have HH := Lib.hid h0
  clear hv h0 hte hts hnn g1 g2 g3 g4 hsl
  generalize hH : hdOf s.data.toList = H at *
  have HHD := Lib.hid hH
  clear hH
  obtain ⟨hbase, hcount, hview, hproducer, hseq, hn⟩ := H
  simp only at hn1 hn2 hn3
  go_enter Tryz.func23, Tryz.ntmps23
  go_wp2_with fail
  refine (head_all s _ hsz).mono ?_
  rintro e w1 ⟨rfl, hb1⟩
  rw [HV.out]
  have hz0 := (hb1.block w.heap.size (by show _ < (w.heap.push _).size; simp)).trans (heap_alloc_last w _)
  obtain ⟨z0, z1, z2, z3, z4, z5⟩ := cells6 hz0
  have hfz : ∀ j, w1.frozen? ⟨w.heap.size, j, none⟩ = false := fun j => Lib.frozen_of_heap hz0 j
  have hlt := lt_of_heap hz0
  have HW := Lib.hid (((Below.refl w.heap.size w).alloc (Nat.le_refl _) (.cells #[.int .i64 0, .int .i64 0, .int .i64 0, .int .i64 0, .int .i64 0, .slice none 0 0] 59)).trans (hb1.mono (le_alloc (Nat.le_refl _) _)))
  have HLT := Lib.hid hlt
  clear hb1
  have HZ0 := Lib.hid hz0
  clear hz0
  go_wp2_with fail
  generalize ht : s.extract 10 hn.toNat = t
  have htl : t.data.toList = sumd s.data.toList := by rw [← ht]; exact HTE.out
  have htz : t.size = (sumd s.data.toList).length := by rw [size_data, htl]
  have htb : t.size ≤ 262144 := by have := HTS.out; have := HN.out; omega
  have ht29 : 29 ≤ t.size := by have := HTS.out; have := HN.out; omega
  have HTL := Lib.hid htl
  clear ht htl htz
  refine (number_any _ t 25 4 25 4 rfl rfl (by decide) (by decide) (by omega) (by omega)).mono ?_
  rintro e w2 ⟨rfl, rfl⟩
  obtain ⟨n0, n1, hq⟩ := nv_small t.data.toList 25 4 (by decide)
  clear hq
  generalize hpn : nv t.data.toList 25 4 = pn at *
  have HPN := Lib.hid hpn
  clear hpn
  have hl : ¬ 1048576 < pn := by rw [← HPN.out, HTL.out]; have := HL.out; omega
  have hlt22 : 22 < t.size := by omega
  have hby : ((t[22]'hlt22).toNat : Int) = 1 := by rw [byte_at t 22 hlt22, HTL.out, HCB.out]; rfl
  have hi22 : (22 : Int) < (t.size : Int) := by omega
  go_upto_region 9 with (fail)
  have hzx : t.extract 29 t.size = str ((sumd s.data.toList).drop 29) := by
    apply ByteArray.ext; apply Array.ext'; rw [extract_rest, str_data, HTL.out]
  have hzl : ((sumd s.data.toList).drop 29).length = t.size - 29 := by rw [List.length_drop, size_data, HTL.out]
  have hp2 := HP.out
  rw [← HTL.out, HPN.out, HTL.out] at hp2
  rw [hzx]
  generalize hzz : (sumd s.data.toList).drop 29 = zl at *
  have HP2 := Lib.hid hp2
  have HZX := Lib.hid hzx
  have HZL := Lib.hid hzl
  have HZZ := Lib.hid hzz
  clear hp2 hzx hzl hzz HP
  have hq0 := alloc_old (.cells #[.int .i64 hbase, .int .i64 hcount, .int .i64 hview, .int .i64 hproducer, .int .i64 hseq, .slice none 0 0] 59) HZ0.out
  have hq1 := heap_alloc_last w1 (.cells #[.int .i64 hbase, .int .i64 hcount, .int .i64 hview, .int .i64 hproducer, .int .i64 hseq, .slice none 0 0] 59)
  have hq2 := HW.out.alloc HW.out.size (.cells #[.int .i64 hbase, .int .i64 hcount, .int .i64 hview, .int .i64 hproducer, .int .i64 hseq, .slice none 0 0] 59)
  generalize hb1e : w1.alloc (.cells #[.int .i64 hbase, .int .i64 hcount, .int .i64 hview, .int .i64 hproducer, .int .i64 hseq, .slice none 0 0] 59) = w2 at hq0 hq1 hq2 ⊢
  have HQ0 := Lib.hid hq0
  have HQ1 := Lib.hid hq1
  have HQ2 := Lib.hid hq2
  clear hb1e hq0 hq1 hq2 z0 z1 z2 z3 z4 z5 hfz
  refine wp_region_seqo [1, 2, 6, 7, 0, 3, 4, 5, 8, 9, 10, 11, 12, 13, 14, 15] (S := fun w' => Below w2.heap.size w2 w') (by kernel_rfl) (by kernel_rfl) ((Below.refl _ _).drew) ?_
  refine Seqo.light (v := ?_) rfl (by kernel_rfl) ?_ ?_
  rotate_left 1
  focus (intro w hSw; (try dsimp only at hSw); go_simp; try with_reducible rfl)
  try simp only [Act.put, List.setIfInBounds_toArray, List.set_cons_zero, List.set_cons_succ]
  refine Seqo.light (v := ?_) rfl (by kernel_rfl) ?_ ?_
  rotate_left 1
  focus (intro w hSw; (try dsimp only at hSw); go_simp; try with_reducible rfl)
  try simp only [Act.put, List.setIfInBounds_toArray, List.set_cons_zero, List.set_cons_succ]
  refine Seqo.light (v := ?_) rfl (by kernel_rfl) ?_ ?_
  rotate_left 1
  focus (intro w hSw; (try dsimp only at hSw); go_simp; try with_reducible rfl)
  try simp only [Act.put, List.setIfInBounds_toArray, List.set_cons_zero, List.set_cons_succ]
  refine Seqo.light (v := ?_) rfl (by kernel_rfl) ?_ ?_
  rotate_left 1
  focus (intro w hSw; (try dsimp only at hSw); go_simp; try with_reducible rfl)
  try simp only [Act.put, List.setIfInBounds_toArray, List.set_cons_zero, List.set_cons_succ]
  refine Seqo.callw (fun v => ∃ b, v = .slice (some ⟨b, 0, none⟩) 3 3) (fun v w' => Below w2.heap.size w2 w' ∧ ∀ b, v = .slice (some ⟨b, 0, none⟩) 3 3 → w'.cell? ⟨b, 3, none⟩ = some (cf 93)) rfl (by kernel_rfl) (by kernel_rfl) (fun w hSw => by (try dsimp only at hSw); go_simp; exact ⟨rfl, rfl⟩) ?_ (.inl fun v w h => h.1) ?_
  · intro w3 hSw
    refine (codecs w3).mono ?_
    rintro e w4 ⟨rfl, hw4⟩
    refine ⟨_, rfl, ⟨_, rfl⟩, by rw [hw4]; exact hSw.alloc hSw.size _, ?_⟩
    intro b hb
    cases hb
    rw [hw4, cell_of_row _ _ _ _ _ _ (heap_alloc_last _ _)]; rfl
  rintro v ⟨cb, rfl⟩
  try simp only [Act.put, List.setIfInBounds_toArray, List.set_cons_zero, List.set_cons_succ]
  refine Seqo.light (v := ?_) rfl (by kernel_rfl) ?_ ?_
  rotate_left 1
  focus (intro w hSw; (try dsimp only at hSw); go_simp; try with_reducible rfl)
  try simp only [Act.put, List.setIfInBounds_toArray, List.set_cons_zero, List.set_cons_succ]
  refine Seqo.light (v := ?_) rfl (by kernel_rfl) ?_ ?_
  rotate_left 1
  focus (intro w hSw; (try dsimp only at hSw); go_simp; try with_reducible rfl)
  try simp only [Act.put, List.setIfInBounds_toArray, List.set_cons_zero, List.set_cons_succ]
  refine Seqo.light (v := (Value.func (.func 93) #[] #[])) rfl (by kernel_rfl) ?_ ?_
  · intro w hSw
    have hc := hSw.2 _ rfl
    unfold cf at hc
    go_simp
    try rfl
  try simp only [Act.put, List.setIfInBounds_toArray, List.set_cons_zero, List.set_cons_succ]
  refine Seqo.callw (fun v => ∃ p used er, v = .tuple #[.string p, .int .i64 used, .int .i64 er] ∧ U p used er ∧ p.size ≤ 1099511627776) (fun _ w' => Below w2.heap.size w2 w') rfl (by kernel_rfl) (by kernel_rfl) (fun w hSw => by (try dsimp only at hSw); go_simp; exact ⟨rfl, rfl⟩) ?_ (.inr (by kernel_rfl)) ?_
  · intro w3 hSw
    refine (HP2.out w3).mono ?_
    rintro e w4 ⟨p, used, er, rfl, hU, hps, hb4⟩
    exact ⟨_, rfl, ⟨p, used, er, rfl, hU, hps⟩, hSw.1.trans (hb4.mono hSw.1.size)⟩
  rintro v ⟨p, used, er, rfl, hU, hps⟩
  try simp only [Act.put, List.setIfInBounds_toArray, List.set_cons_zero, List.set_cons_succ]
  refine Seqo.light (v := ?_) rfl (by kernel_rfl) ?_ ?_
  rotate_left 1
  focus (intro w hSw; (try dsimp only at hSw); go_simp; try with_reducible rfl)
  try simp only [Act.put, List.setIfInBounds_toArray, List.set_cons_zero, List.set_cons_succ]
  refine Seqo.light (v := ?_) rfl (by kernel_rfl) ?_ ?_
  rotate_left 1
  focus (intro w hSw; (try dsimp only at hSw); go_simp; try with_reducible rfl)
  try simp only [Act.put, List.setIfInBounds_toArray, List.set_cons_zero, List.set_cons_succ]
  refine Seqo.light (v := ?_) rfl (by kernel_rfl) ?_ ?_
  rotate_left 1
  focus (intro w hSw; (try dsimp only at hSw); go_simp; try with_reducible rfl)
  try simp only [Act.put, List.setIfInBounds_toArray, List.set_cons_zero, List.set_cons_succ]
  refine Seqo.light (v := ?_) rfl (by kernel_rfl) ?_ ?_
  rotate_left 1
  focus (intro w hSw; (try dsimp only at hSw); go_simp; try with_reducible rfl)
  try simp only [Act.put, List.setIfInBounds_toArray, List.set_cons_zero, List.set_cons_succ]
  refine Seqo.light (v := ?_) rfl (by kernel_rfl) ?_ ?_
  rotate_left 1
  focus (intro w hSw; (try dsimp only at hSw); go_simp; try with_reducible rfl)
  try simp only [Act.put, List.setIfInBounds_toArray, List.set_cons_zero, List.set_cons_succ]
  refine Seqo.light (v := ?_) rfl (by kernel_rfl) ?_ ?_
  rotate_left 1
  focus (intro w hSw; (try dsimp only at hSw); go_simp; try with_reducible rfl)
  try simp only [Act.put, List.setIfInBounds_toArray, List.set_cons_zero, List.set_cons_succ]
  refine Seqo.light (v := ?_) rfl (by kernel_rfl) ?_ ?_
  rotate_left 1
  focus (intro w hSw; (try dsimp only at hSw); go_simp; try with_reducible rfl)
  try simp only [Act.put, List.setIfInBounds_toArray, List.set_cons_zero, List.set_cons_succ]
  refine Seqo.nil fun w3 hS3 => ?_
  have HB3 := Lib.hid hS3
  have HU := Lib.hid hU
  have hS3' : Below w2.heap.size w2 w3 := hS3
  have hr0 : w3.heap[w.heap.size]? = some (.cells #[.int .i64 0, .int .i64 0, .int .i64 0, .int .i64 0, .int .i64 0, .slice none 0 0] 59 (0, 0)) := (hS3'.block _ (lt_of_heap HQ0.out)).trans HQ0.out
  have hr1 : w3.heap[w1.heap.size]? = some (.cells #[.int .i64 hbase, .int .i64 hcount, .int .i64 hview, .int .i64 hproducer, .int .i64 hseq, .slice none 0 0] 59 (0, 0)) := (hS3'.block _ (lt_of_heap HQ1.out)).trans HQ1.out
  have hlt3 := lt_of_heap hr0
  have HW3 := Lib.hid (HQ2.out.trans (hS3'.mono HQ2.out.size))
  have HLT3 := Lib.hid hlt3
  have HR0 := Lib.hid hr0
  have HR1 := Lib.hid hr1
  obtain ⟨z0, z1, z2, z3, z4, z5⟩ := cells6 hr0
  obtain ⟨y0, y1, y2, y3, y4, y5⟩ := cells6 hr1
  have hfz : ∀ j, w3.frozen? ⟨w.heap.size, j, none⟩ = false := fun j => Lib.frozen_of_heap hr0 j
  have hfy : ∀ j, w3.frozen? ⟨w1.heap.size, j, none⟩ = false := fun j => Lib.frozen_of_heap hr1 j
  clear hS3 hS3' hU hr0 hr1 hlt3
  have hbad : ¬ (er = 0 ∧ used = (zl.length : Int) ∧ (p.size : Int) = pn) → bodyOf s.data.toList p used er = none := fun hn => by
    unfold bodyOf
    rw [if_neg (by rw [HZZ.out, ← HTL.out, HPN.out]; exact hn)]
  have HBAD := Lib.hid hbad
  clear hbad
  by_cases he : er = 0
  · subst he
    have hzs : ((str zl).size : Int) = (zl.length : Int) := by rw [str_size]
    by_cases hu : used = (zl.length : Int)
    · have hu1 : (used == ((str zl).size : Int)) = true := beq_iff_eq.2 (by rw [hzs]; exact hu)
      have hu2 : (used != ((str zl).size : Int)) = false := by rw [bne, hu1]; rfl
      by_cases hpz : (p.size : Int) = pn
      · have hp1 : ((p.size : Int) == pn) = true := beq_iff_eq.2 hpz
        have hp2 : ((p.size : Int) != pn) = false := by rw [bne, hp1]; rfl
        have HGOOD := Lib.hid (show (0 : Int) = 0 ∧ used = (zl.length : Int) ∧ (p.size : Int) = pn from ⟨rfl, hu, hpz⟩)
        clear hu hpz hzs
        go_upto_region 12 with (fail)
        have hr0 := HR0.out
        have hr1 := HR1.out
        have hw3 := HW3.out
        have hnr0 := (nv_small t.data.toList 23 2 (by decide)).1
        have hnr1 : nv t.data.toList 23 2 ≤ 65535 := by
          rw [(nv_small t.data.toList 23 2 (by decide)).2.2]
          have h := num_lt ((t.data.toList.drop 23).take 2)
          have h2 : 256 ^ ((t.data.toList.drop 23).take 2).length ≤ 256 ^ 2 := Nat.pow_le_pow_right (by decide) (by rw [List.length_take]; omega)
          omega
        generalize hnr : nv t.data.toList 23 2 = nr at *
        have HNR := Lib.hid hnr
        clear hnr
        refine wp_region_seqo [0, 1, 2, 3, 4, 5, 6, 7, 8, 9, 10, 11] (S := (fun w' => w'.heap[w.heap.size]? = some (.cells #[.int .i64 0, .int .i64 0, .int .i64 0, .int .i64 0, .int .i64 0, .slice none 0 0] 59 (0, 0)) ∧ (∃ x5 : Value, w'.heap[w1.heap.size]? = some (.cells #[.int .i64 hbase, .int .i64 hcount, .int .i64 hview, .int .i64 hproducer, .int .i64 hseq, x5] 59 (0, 0))) ∧ w'.cell? ⟨w1.heap.size, 0, none⟩ = some (.int .i64 hbase) ∧ Below w.heap.size w w')) (by kernel_rfl) (by kernel_rfl) ⟨hr0, ⟨_, hr1⟩, y0, hw3.drew⟩ ?_
        have HNE := Lib.hid (show w.heap.size ≠ w1.heap.size from by have := HLT.out; omega)
        have HLE := HLT
        clear hr0 hr1 hw3
        refine Seqo.light (v := ?_) rfl (by kernel_rfl) ?_ ?_
        rotate_left 1
        focus (intro w hSw; (try dsimp only at hSw); go_simp; try with_reducible rfl)
        try simp only [Act.put, List.setIfInBounds_toArray, List.set_cons_zero, List.set_cons_succ]
        refine Seqo.light (v := ?_) rfl (by kernel_rfl) ?_ ?_
        rotate_left 1
        focus (intro w hSw; (try dsimp only at hSw); go_simp; try with_reducible rfl)
        try simp only [Act.put, List.setIfInBounds_toArray, List.set_cons_zero, List.set_cons_succ]
        refine Seqo.light (v := ?_) rfl (by kernel_rfl) ?_ ?_
        rotate_left 1
        focus (intro w hSw; (try dsimp only at hSw); go_simp; try with_reducible rfl)
        try simp only [Act.put, List.setIfInBounds_toArray, List.set_cons_zero, List.set_cons_succ]
        refine Seqo.light (v := ?_) rfl (by kernel_rfl) ?_ ?_
        rotate_left 1
        focus (intro w hSw; (try dsimp only at hSw); go_simp; try with_reducible rfl)
        try simp only [Act.put, List.setIfInBounds_toArray, List.set_cons_zero, List.set_cons_succ]
        refine Seqo.call (.int .i64 nr) rfl (by kernel_rfl) (by kernel_rfl) (fun w hSw => by (try dsimp only at hSw); go_simp; exact ⟨rfl, rfl⟩) ?_ ?_
        · intro w4 hSw
          refine (number_any w4 t 23 2 23 2 rfl rfl (by decide) (by decide) (by omega) (by omega)).mono ?_
          rintro e w5 ⟨rfl, rfl⟩
          exact ⟨by rw [HNR.out], hSw⟩
        try simp only [Act.put, List.setIfInBounds_toArray, List.set_cons_zero, List.set_cons_succ]
        refine Seqo.callw (fun v => (∃ rs ap cap, ofRecs p.data.toList hbase nr = some rs ∧ v = .tuple #[.slice ap rs.length cap, .int .i64 0] ∧ rs.length ≤ cap) ∨ (ofRecs p.data.toList hbase nr = none ∧ v = .tuple #[.slice none 0 0, .int .i64 90])) (fun v w' => (w'.heap[w.heap.size]? = some (.cells #[.int .i64 0, .int .i64 0, .int .i64 0, .int .i64 0, .int .i64 0, .slice none 0 0] 59 (0, 0)) ∧ (∃ x5 : Value, w'.heap[w1.heap.size]? = some (.cells #[.int .i64 hbase, .int .i64 hcount, .int .i64 hview, .int .i64 hproducer, .int .i64 hseq, x5] 59 (0, 0))) ∧ w'.cell? ⟨w1.heap.size, 0, none⟩ = some (.int .i64 hbase) ∧ Below w.heap.size w w') ∧ ∀ rs ap cap, ofRecs p.data.toList hbase nr = some rs → v = .tuple #[.slice ap rs.length cap, .int .i64 0] → RecsAt w' ap rs ∧ ∀ a, ap = some a → w1.heap.size < a.block) rfl (by kernel_rfl) (by kernel_rfl) (fun w hSw => by (try dsimp only at hSw); go_simp; exact ⟨rfl, rfl⟩) ?_ (.inl fun v w h => h.1) ?_
        · intro w4 hSw
          refine (of_all p hbase nr w4 hps (by omega)).mono ?_
          intro e w5 hpost
          obtain ⟨d0, ⟨x5, d1⟩, d2, d5⟩ := hSw
          have hkeep : ∀ hb5 : Below w4.heap.size w4 w5, w5.heap[w.heap.size]? = some (.cells #[.int .i64 0, .int .i64 0, .int .i64 0, .int .i64 0, .int .i64 0, .slice none 0 0] 59 (0, 0)) ∧ (∃ x5 : Value, w5.heap[w1.heap.size]? = some (.cells #[.int .i64 hbase, .int .i64 hcount, .int .i64 hview, .int .i64 hproducer, .int .i64 hseq, x5] 59 (0, 0))) ∧ w5.cell? ⟨w1.heap.size, 0, none⟩ = some (.int .i64 hbase) ∧ Below w.heap.size w w5 := fun hb5 => by
            have e1 := (hb5.block _ (lt_of_heap d1)).trans d1
            obtain ⟨x0, _⟩ := cells6 e1
            exact ⟨(hb5.block _ (lt_of_heap d0)).trans d0, ⟨_, e1⟩, x0, d5.trans (hb5.mono d5.size)⟩
          rcases hpost with ⟨rs, ap, cap, h1, rfl, h2, h3, h4, h5b⟩ | ⟨h1, rfl, h4⟩
          · refine ⟨_, rfl, .inl ⟨rs, ap, cap, h1, rfl, h2⟩, hkeep h4, fun rs' ap' cap' h5 h6 => ?_⟩
            rw [h1] at h5
            cases h5
            cases h6
            exact ⟨h3, fun a ha => by have := h5b a ha; have := lt_of_heap d1; omega⟩
          · refine ⟨_, rfl, .inr ⟨h1, rfl⟩, hkeep h4, fun rs' ap' cap' h5 _ => ?_⟩
            rw [h1] at h5; cases h5
        rintro v (⟨rs, ap, cap, hrs, rfl, hcap⟩ | ⟨hrs, rfl⟩)
        · try simp only [Act.put, List.setIfInBounds_toArray, List.set_cons_zero, List.set_cons_succ]
          refine Seqo.light (v := ?_) rfl (by kernel_rfl) ?_ ?_
          rotate_left 1
          focus (intro w hSw; (try dsimp only at hSw); go_simp; try with_reducible rfl)
          try simp only [Act.put, List.setIfInBounds_toArray, List.set_cons_zero, List.set_cons_succ]
          refine Seqo.light (v := ?_) rfl (by kernel_rfl) ?_ ?_
          rotate_left 1
          focus (intro w hSw; (try dsimp only at hSw); go_simp; try with_reducible rfl)
          try simp only [Act.put, List.setIfInBounds_toArray, List.set_cons_zero, List.set_cons_succ]
          refine Seqo.light (v := ?_) rfl (by kernel_rfl) ?_ ?_
          rotate_left 1
          focus (intro w hSw; (try dsimp only at hSw); go_simp; try with_reducible rfl)
          try simp only [Act.put, List.setIfInBounds_toArray, List.set_cons_zero, List.set_cons_succ]
          refine Seqo.light (v := ?_) rfl (by kernel_rfl) ?_ ?_
          rotate_left 1
          focus (intro w hSw; (try dsimp only at hSw); go_simp; try with_reducible rfl)
          try simp only [Act.put, List.setIfInBounds_toArray, List.set_cons_zero, List.set_cons_succ]
          refine Seqo.storew (fun w' => (w'.heap[w.heap.size]? = some (.cells #[.int .i64 0, .int .i64 0, .int .i64 0, .int .i64 0, .int .i64 0, .slice none 0 0] 59 (0, 0)) ∧ (∃ x5 : Value, w'.heap[w1.heap.size]? = some (.cells #[.int .i64 hbase, .int .i64 hcount, .int .i64 hview, .int .i64 hproducer, .int .i64 hseq, x5] 59 (0, 0))) ∧ w'.cell? ⟨w1.heap.size, 0, none⟩ = some (.int .i64 hbase) ∧ Below w.heap.size w w') ∧ w'.heap[w1.heap.size]? = some (.cells #[.int .i64 hbase, .int .i64 hcount, .int .i64 hview, .int .i64 hproducer, .int .i64 hseq, .slice ap rs.length cap] 59 (0, 0)) ∧ RecsAt w' ap rs ∧ ∀ a, ap = some a → w1.heap.size < a.block) rfl (by kernel_rfl) (by kernel_rfl) ?_ (.inl fun w h => ⟨h.1, fun rs' ap' cap' h5 h6 => by rw [hrs] at h5; cases h5; cases h6; exact ⟨h.2.2.1, h.2.2.2⟩⟩) ?_
          · intro w4 hSw
            obtain ⟨⟨d0, ⟨x5, d1⟩, d2, d5⟩, d6⟩ := hSw
            obtain ⟨e0, e1, e2, e3, e4, e5⟩ := cells6 d1
            have ef := Lib.frozen_of_heap d1 5
            have D6 := Lib.hid d6
            have D1 := Lib.hid d1
            have D0 := Lib.hid d0
            have D5 := Lib.hid d5
            clear d6 d1 d0 d5
            refine ⟨w4.setCell ⟨w1.heap.size, 5, none⟩ (.slice ap rs.length cap), by go_simp, ⟨?_, ?_, ?_, ?_⟩, ?_, ?_⟩
            · rw [set_other _ _ _ _ HNE.out]; exact D0.out
            · exact ⟨_, (set_cells _ D1.out).trans rfl⟩
            · rw [cell_of_row _ _ _ _ _ _ ((set_cells (.slice ap rs.length cap) D1.out).trans rfl)]; rfl
            · exact D5.out.setCell (p := ⟨w1.heap.size, 5, none⟩) (Nat.le_of_lt HLE.out) _
            · exact (set_cells _ D1.out).trans rfl
            · exact ⟨RecsAt.other (D6.out rs ap cap hrs rfl).1 (set_size _ _ _) (fun k hk => set_other _ _ _ _ hk) (.inr fun a ha => Nat.ne_of_gt ((D6.out rs ap cap hrs rfl).2 a ha)), (D6.out rs ap cap hrs rfl).2⟩
          try simp only [Act.put, List.setIfInBounds_toArray, List.set_cons_zero, List.set_cons_succ]
          refine Seqo.light (v := ?_) rfl (by kernel_rfl) ?_ ?_
          rotate_left 1
          focus (intro w hSw; (try dsimp only at hSw); go_simp; try with_reducible rfl)
          try simp only [Act.put, List.setIfInBounds_toArray, List.set_cons_zero, List.set_cons_succ]
          refine Seqo.nil fun w4 hS4 => ?_
          obtain ⟨⟨d0, _, _, d5⟩, d1, d6⟩ := hS4
          obtain ⟨z0, z1, z2, z3, z4, z5⟩ := cells6 d0
          obtain ⟨y0, y1, y2, y3, y4, y5⟩ := cells6 d1
          have hfz : ∀ j, w4.frozen? ⟨w.heap.size, j, none⟩ = false := fun j => Lib.frozen_of_heap d0 j
          have HD0 := Lib.hid d0
          have HD1 := Lib.hid d1
          have HD5 := Lib.hid d5
          have HD6 := Lib.hid d6
          have HRS := Lib.hid hrs
          have hbo : bodyOf s.data.toList p used 0 = (match (some rs : Option (List Rec)) with | some rs => if mayB hbase hcount hview hproducer hseq rs = true then some rs else none | none => none) := by
            unfold bodyOf
            rw [if_pos (by rw [HZZ.out, ← HTL.out, HPN.out]; exact HGOOD.out), ← HTL.out, HNR.out, HHD.out]
            simp only
            rw [HRS.out]
          have HBO := Lib.hid hbo
          clear hbo d0 d1 d5 d6 hrs
          have hrl : rs.length ≤ 1048576 := by have := ofRecs_length HRS.out; omega
          have HRL := Lib.hid hrl
          have HCAP := Lib.hid hcap
          clear hrl hcap
          go_wp2_with fail
          refine (check_any hbase hcount hview hproducer hseq ap cap rs w4 HD6.out.1 HRL.out).mono ?_
          rintro e w5 ⟨rfl, hb5⟩
          have hd0 := (hb5.block _ (lt_of_heap HD0.out)).trans HD0.out
          have hd1 := (hb5.block _ (lt_of_heap HD1.out)).trans HD1.out
          have HR5 := Lib.hid (HD6.out.1.below hb5)
          have HW5 := Lib.hid (HD5.out.trans (hb5.mono HD5.out.size))
          clear z0 z1 z2 z3 z4 z5 y0 y1 y2 y3 y4 y5 hfz hb5
          obtain ⟨z0, z1, z2, z3, z4, z5⟩ := cells6 hd0
          obtain ⟨y0, y1, y2, y3, y4, y5⟩ := cells6 hd1
          have hfz : ∀ j, w5.frozen? ⟨w.heap.size, j, none⟩ = false := fun j => Lib.frozen_of_heap hd0 j
          clear hd0 hd1
          cases hmb : mayB hbase hcount hview hproducer hseq rs with
          | true =>
            have HNO := Lib.hid (show bodyOf s.data.toList p used 0 = some rs from by rw [HBO.out]; simp only [hmb, if_true])
            have HHH := Lib.hid (show ∀ a, ap = some a → w.heap.size < a.block from fun a ha => by have := HD6.out.2 a ha; have := HLE.out; omega)
            rw [chk_yes rfl]
            clear hmb
            go_wp2
            refine bodyPost_ret (v := .tuple #[.agg #[.int .i64 hbase, .int .i64 hcount, .int .i64 hview, .int .i64 hproducer, .int .i64 hseq, .slice ap rs.length cap], .int .i64 hn, .int .i64 0]) (by simp [results, Tryz.results23, go_sem, zb, *]) rfl ⟨p, used, 0, HU.out, .inl ⟨rs, ap, cap, HNO.out, by rfl, HCAP.out, RecsAt.set6 HR5.out HHH.out _ _ _ _ _ _, below6 HW5.out _ _ _ _ _ _⟩⟩
          | false =>
            have HNO := Lib.hid (show bodyOf s.data.toList p used 0 = none from by rw [HBO.out]; simp only [hmb]; rfl)
            rw [chk_no rfl]
            clear hmb
            go_wp2
            refine bodyPost_ret (v := .tuple #[zb, .int .i64 0, .int .i64 100]) (by simp [results, Tryz.results23, go_sem, zb, *]) rfl ⟨p, used, 0, HU.out, .inr ⟨HNO.out, rfl, below6 HW5.out _ _ _ _ _ _⟩⟩
        · try simp only [Act.put, List.setIfInBounds_toArray, List.set_cons_zero, List.set_cons_succ]
          refine Seqo.light (v := ?_) rfl (by kernel_rfl) ?_ ?_
          rotate_left 1
          focus (intro w hSw; (try dsimp only at hSw); go_simp; try with_reducible rfl)
          try simp only [Act.put, List.setIfInBounds_toArray, List.set_cons_zero, List.set_cons_succ]
          refine Seqo.light (v := ?_) rfl (by kernel_rfl) ?_ ?_
          rotate_left 1
          focus (intro w hSw; (try dsimp only at hSw); go_simp; try with_reducible rfl)
          try simp only [Act.put, List.setIfInBounds_toArray, List.set_cons_zero, List.set_cons_succ]
          refine Seqo.light (v := ?_) rfl (by kernel_rfl) ?_ ?_
          rotate_left 1
          focus (intro w hSw; (try dsimp only at hSw); go_simp; try with_reducible rfl)
          try simp only [Act.put, List.setIfInBounds_toArray, List.set_cons_zero, List.set_cons_succ]
          refine Seqo.light (v := ?_) rfl (by kernel_rfl) ?_ ?_
          rotate_left 1
          focus (intro w hSw; (try dsimp only at hSw); go_simp; try with_reducible rfl)
          try simp only [Act.put, List.setIfInBounds_toArray, List.set_cons_zero, List.set_cons_succ]
          refine Seqo.storew (fun w' => (w'.heap[w.heap.size]? = some (.cells #[.int .i64 0, .int .i64 0, .int .i64 0, .int .i64 0, .int .i64 0, .slice none 0 0] 59 (0, 0)) ∧ (∃ x5 : Value, w'.heap[w1.heap.size]? = some (.cells #[.int .i64 hbase, .int .i64 hcount, .int .i64 hview, .int .i64 hproducer, .int .i64 hseq, x5] 59 (0, 0))) ∧ w'.cell? ⟨w1.heap.size, 0, none⟩ = some (.int .i64 hbase) ∧ Below w.heap.size w w') ∧ w'.heap[w1.heap.size]? = some (.cells #[.int .i64 hbase, .int .i64 hcount, .int .i64 hview, .int .i64 hproducer, .int .i64 hseq, .slice none 0 0] 59 (0, 0)) ∧ True) rfl (by kernel_rfl) (by kernel_rfl) ?_ (.inl fun w h => ⟨h.1, fun rs' ap' cap' h5 _ => by rw [hrs] at h5; cases h5⟩) ?_
          · intro w4 hSw
            obtain ⟨⟨d0, ⟨x5, d1⟩, d2, d5⟩, d6⟩ := hSw
            obtain ⟨e0, e1, e2, e3, e4, e5⟩ := cells6 d1
            have ef := Lib.frozen_of_heap d1 5
            have D6 := Lib.hid d6
            have D1 := Lib.hid d1
            have D0 := Lib.hid d0
            have D5 := Lib.hid d5
            clear d6 d1 d0 d5
            refine ⟨w4.setCell ⟨w1.heap.size, 5, none⟩ (.slice none 0 0), by go_simp, ⟨?_, ?_, ?_, ?_⟩, ?_, ?_⟩
            · rw [set_other _ _ _ _ HNE.out]; exact D0.out
            · exact ⟨_, (set_cells _ D1.out).trans rfl⟩
            · rw [cell_of_row _ _ _ _ _ _ ((set_cells (.slice none 0 0) D1.out).trans rfl)]; rfl
            · exact D5.out.setCell (p := ⟨w1.heap.size, 5, none⟩) (Nat.le_of_lt HLE.out) _
            · exact (set_cells _ D1.out).trans rfl
            · trivial
          try simp only [Act.put, List.setIfInBounds_toArray, List.set_cons_zero, List.set_cons_succ]
          refine Seqo.light (v := ?_) rfl (by kernel_rfl) ?_ ?_
          rotate_left 1
          focus (intro w hSw; (try dsimp only at hSw); go_simp; try with_reducible rfl)
          try simp only [Act.put, List.setIfInBounds_toArray, List.set_cons_zero, List.set_cons_succ]
          refine Seqo.nil fun w4 hS4 => ?_
          obtain ⟨⟨d0, _, _, d5⟩, d1, d6⟩ := hS4
          obtain ⟨z0, z1, z2, z3, z4, z5⟩ := cells6 d0
          obtain ⟨y0, y1, y2, y3, y4, y5⟩ := cells6 d1
          have hfz : ∀ j, w4.frozen? ⟨w.heap.size, j, none⟩ = false := fun j => Lib.frozen_of_heap d0 j
          have HD0 := Lib.hid d0
          have HD1 := Lib.hid d1
          have HD5 := Lib.hid d5
          have HD6 := Lib.hid d6
          have HRS := Lib.hid hrs
          have hbo : bodyOf s.data.toList p used 0 = (match (none : Option (List Rec)) with | some rs => if mayB hbase hcount hview hproducer hseq rs = true then some rs else none | none => none) := by
            unfold bodyOf
            rw [if_pos (by rw [HZZ.out, ← HTL.out, HPN.out]; exact HGOOD.out), ← HTL.out, HNR.out, HHD.out]
            simp only
            rw [HRS.out]
          have HBO := Lib.hid hbo
          clear hbo d0 d1 d5 d6 hrs
          have HNO := Lib.hid (show bodyOf s.data.toList p used 0 = none from by rw [HBO.out])
          go_wp2
          refine bodyPost_ret (v := .tuple #[zb, .int .i64 0, .int .i64 100]) (by simp [results, Tryz.results23, go_sem, zb, *]) rfl ⟨p, used, 0, HU.out, .inr ⟨HNO.out, rfl, below6 HD5.out _ _ _ _ _ _⟩⟩
      · have hp1 : ((p.size : Int) == pn) = false := beq_eq_false_iff_ne.2 hpz
        have hp2 : ((p.size : Int) != pn) = true := by rw [bne, hp1]; rfl
        have HNO := Lib.hid (HBAD.out (fun h => hpz h.2.2))
        clear hu hpz hzs
        go_wp2
        refine bodyPost_ret (v := .tuple #[zb, .int .i64 0, .int .i64 100]) (by simp [results, Tryz.results23, go_sem, zb, *]) rfl ⟨p, used, 0, HU.out, .inr ⟨HNO.out, rfl, below6 HW3.out _ _ _ _ _ _⟩⟩
    · have hu1 : (used == ((str zl).size : Int)) = false := beq_eq_false_iff_ne.2 (by rw [hzs]; exact hu)
      have hu2 : (used != ((str zl).size : Int)) = true := by rw [bne, hu1]; rfl
      have HNO := Lib.hid (HBAD.out (fun h => hu h.2.1))
      clear hu hzs
      go_wp2
      refine bodyPost_ret (v := .tuple #[zb, .int .i64 0, .int .i64 100]) (by simp [results, Tryz.results23, go_sem, zb, *]) rfl ⟨p, used, 0, HU.out, .inr ⟨HNO.out, rfl, below6 HW3.out _ _ _ _ _ _⟩⟩
  · have he1 : (er == 0) = false := beq_eq_false_iff_ne.2 he
    have he2 : (er != 0) = true := by simp [he]
    have HNO := Lib.hid (HBAD.out (fun h => he h.1))
    clear he
    go_wp2
    refine bodyPost_ret (v := .tuple #[zb, .int .i64 0, .int .i64 100]) (by simp [results, Tryz.results23, go_sem, zb, *]) rfl ⟨p, used, er, HU.out, .inr ⟨HNO.out, rfl, below6 HW3.out _ _ _ _ _ _⟩⟩
set_option maxRecDepth 100000 in
set_option maxHeartbeats 4000000 in
theorem of_go2 (s : ByteArray) (w : World) (hsz : s.size ≤ 1099511627776) (h0 : headErr s.data.toList = 0) (hl : nv (sumd s.data.toList) 25 4 ≤ 1048576) (hcb : ((sumd s.data.toList).getD 22 0).toNat = 2) (U : ByteArray → Int → Int → Prop)
    (hp : ∀ W, Calls Tryz.prog 95 #[.string (str ((sumd s.data.toList).drop 29)), .int .i64 (nv (sumd s.data.toList) 25 4)] W fun e w' => ∃ p used er, e = .returned (.tuple #[.string p, .int .i64 used, .int .i64 er]) ∧ U p used er ∧ p.size ≤ 1099511627776 ∧ Below W.heap.size W w') :
    Calls Tryz.prog 23 #[.string s] w fun e w' => ∃ p used er, U p used er ∧ BodyPost (hdOf s.data.toList) (bodyOf s.data.toList p used er) w e w' := by
  have HL := Lib.hid hl
  have HP := Lib.hid hp
  have HCB := Lib.hid hcb
  clear hl hp hcb
  obtain ⟨g1, g2, g3, g4⟩ := head_ok h0
  have hnn : (hdOf s.data.toList).n = 10 + nv s.data.toList 2 4 := rfl
  have hsl : s.data.toList.length = s.size := (size_data s).symm
  have hte : (s.extract 10 (hdOf s.data.toList).n.toNat).data.toList = sumd s.data.toList := by
    rw [extract_data, hnn]; unfold sumd
    rw [show (10 + nv s.data.toList 2 4).toNat - 10 = (nv s.data.toList 2 4).toNat from by omega]
  have hts := sumd_length h0
  have hv := head_val_ok s.data.toList h0
  have HV := Lib.hid hv
  have hn1 : 39 ≤ (hdOf s.data.toList).n := by omega
  have hn2 : (hdOf s.data.toList).n ≤ (s.size : Int) := by omega
  have hn3 : (hdOf s.data.toList).n ≤ 262154 := by omega
  have HTE := Lib.hid hte
  have HTS := Lib.hid hts
  have HN := Lib.hid hnn
  have HH := Lib.hid h0
  clear hv h0 hte hts hnn g1 g2 g3 g4 hsl
  generalize hH : hdOf s.data.toList = H at *
  have HHD := Lib.hid hH
  clear hH
  obtain ⟨hbase, hcount, hview, hproducer, hseq, hn⟩ := H
  simp only at hn1 hn2 hn3
  go_enter Tryz.func23, Tryz.ntmps23
  go_wp2_with fail
  refine (head_all s _ hsz).mono ?_
  rintro e w1 ⟨rfl, hb1⟩
  rw [HV.out]
  have hz0 := (hb1.block w.heap.size (by show _ < (w.heap.push _).size; simp)).trans (heap_alloc_last w _)
  obtain ⟨z0, z1, z2, z3, z4, z5⟩ := cells6 hz0
  have hfz : ∀ j, w1.frozen? ⟨w.heap.size, j, none⟩ = false := fun j => Lib.frozen_of_heap hz0 j
  have hlt := lt_of_heap hz0
  have HW := Lib.hid (((Below.refl w.heap.size w).alloc (Nat.le_refl _) (.cells #[.int .i64 0, .int .i64 0, .int .i64 0, .int .i64 0, .int .i64 0, .slice none 0 0] 59)).trans (hb1.mono (le_alloc (Nat.le_refl _) _)))
  have HLT := Lib.hid hlt
  clear hb1
  have HZ0 := Lib.hid hz0
  clear hz0
  go_wp2_with fail
  generalize ht : s.extract 10 hn.toNat = t
  have htl : t.data.toList = sumd s.data.toList := by rw [← ht]; exact HTE.out
  have htz : t.size = (sumd s.data.toList).length := by rw [size_data, htl]
  have htb : t.size ≤ 262144 := by have := HTS.out; have := HN.out; omega
  have ht29 : 29 ≤ t.size := by have := HTS.out; have := HN.out; omega
  have HTL := Lib.hid htl
  clear ht htl htz
  refine (number_any _ t 25 4 25 4 rfl rfl (by decide) (by decide) (by omega) (by omega)).mono ?_
  rintro e w2 ⟨rfl, rfl⟩
  obtain ⟨n0, n1, hq⟩ := nv_small t.data.toList 25 4 (by decide)
  clear hq
  generalize hpn : nv t.data.toList 25 4 = pn at *
  have HPN := Lib.hid hpn
  clear hpn
  have hl : ¬ 1048576 < pn := by rw [← HPN.out, HTL.out]; have := HL.out; omega
  have hlt22 : 22 < t.size := by omega
  have hby : ((t[22]'hlt22).toNat : Int) = 2 := by rw [byte_at t 22 hlt22, HTL.out, HCB.out]; rfl
  have hi22 : (22 : Int) < (t.size : Int) := by omega
  go_upto_region 9 with (fail)
  have hzx : t.extract 29 t.size = str ((sumd s.data.toList).drop 29) := by
    apply ByteArray.ext; apply Array.ext'; rw [extract_rest, str_data, HTL.out]
  have hzl : ((sumd s.data.toList).drop 29).length = t.size - 29 := by rw [List.length_drop, size_data, HTL.out]
  have hp2 := HP.out
  rw [← HTL.out, HPN.out, HTL.out] at hp2
  rw [hzx]
  generalize hzz : (sumd s.data.toList).drop 29 = zl at *
  have HP2 := Lib.hid hp2
  have HZX := Lib.hid hzx
  have HZL := Lib.hid hzl
  have HZZ := Lib.hid hzz
  clear hp2 hzx hzl hzz HP
  have hq0 := alloc_old (.cells #[.int .i64 hbase, .int .i64 hcount, .int .i64 hview, .int .i64 hproducer, .int .i64 hseq, .slice none 0 0] 59) HZ0.out
  have hq1 := heap_alloc_last w1 (.cells #[.int .i64 hbase, .int .i64 hcount, .int .i64 hview, .int .i64 hproducer, .int .i64 hseq, .slice none 0 0] 59)
  have hq2 := HW.out.alloc HW.out.size (.cells #[.int .i64 hbase, .int .i64 hcount, .int .i64 hview, .int .i64 hproducer, .int .i64 hseq, .slice none 0 0] 59)
  generalize hb1e : w1.alloc (.cells #[.int .i64 hbase, .int .i64 hcount, .int .i64 hview, .int .i64 hproducer, .int .i64 hseq, .slice none 0 0] 59) = w2 at hq0 hq1 hq2 ⊢
  have HQ0 := Lib.hid hq0
  have HQ1 := Lib.hid hq1
  have HQ2 := Lib.hid hq2
  clear hb1e hq0 hq1 hq2 z0 z1 z2 z3 z4 z5 hfz
  refine wp_region_seqo [1, 2, 6, 7, 0, 3, 4, 5, 8, 9, 10, 11, 12, 13, 14, 15] (S := fun w' => Below w2.heap.size w2 w') (by kernel_rfl) (by kernel_rfl) ((Below.refl _ _).drew) ?_
  refine Seqo.light (v := ?_) rfl (by kernel_rfl) ?_ ?_
  rotate_left 1
  focus (intro w hSw; (try dsimp only at hSw); go_simp; try with_reducible rfl)
  try simp only [Act.put, List.setIfInBounds_toArray, List.set_cons_zero, List.set_cons_succ]
  refine Seqo.light (v := ?_) rfl (by kernel_rfl) ?_ ?_
  rotate_left 1
  focus (intro w hSw; (try dsimp only at hSw); go_simp; try with_reducible rfl)
  try simp only [Act.put, List.setIfInBounds_toArray, List.set_cons_zero, List.set_cons_succ]
  refine Seqo.light (v := ?_) rfl (by kernel_rfl) ?_ ?_
  rotate_left 1
  focus (intro w hSw; (try dsimp only at hSw); go_simp; try with_reducible rfl)
  try simp only [Act.put, List.setIfInBounds_toArray, List.set_cons_zero, List.set_cons_succ]
  refine Seqo.light (v := ?_) rfl (by kernel_rfl) ?_ ?_
  rotate_left 1
  focus (intro w hSw; (try dsimp only at hSw); go_simp; try with_reducible rfl)
  try simp only [Act.put, List.setIfInBounds_toArray, List.set_cons_zero, List.set_cons_succ]
  refine Seqo.callw (fun v => ∃ b, v = .slice (some ⟨b, 0, none⟩) 3 3) (fun v w' => Below w2.heap.size w2 w' ∧ ∀ b, v = .slice (some ⟨b, 0, none⟩) 3 3 → w'.cell? ⟨b, 5, none⟩ = some (cf 95)) rfl (by kernel_rfl) (by kernel_rfl) (fun w hSw => by (try dsimp only at hSw); go_simp; exact ⟨rfl, rfl⟩) ?_ (.inl fun v w h => h.1) ?_
  · intro w3 hSw
    refine (codecs w3).mono ?_
    rintro e w4 ⟨rfl, hw4⟩
    refine ⟨_, rfl, ⟨_, rfl⟩, by rw [hw4]; exact hSw.alloc hSw.size _, ?_⟩
    intro b hb
    cases hb
    rw [hw4, cell_of_row _ _ _ _ _ _ (heap_alloc_last _ _)]; rfl
  rintro v ⟨cb, rfl⟩
  try simp only [Act.put, List.setIfInBounds_toArray, List.set_cons_zero, List.set_cons_succ]
  refine Seqo.light (v := ?_) rfl (by kernel_rfl) ?_ ?_
  rotate_left 1
  focus (intro w hSw; (try dsimp only at hSw); go_simp; try with_reducible rfl)
  try simp only [Act.put, List.setIfInBounds_toArray, List.set_cons_zero, List.set_cons_succ]
  refine Seqo.light (v := ?_) rfl (by kernel_rfl) ?_ ?_
  rotate_left 1
  focus (intro w hSw; (try dsimp only at hSw); go_simp; try with_reducible rfl)
  try simp only [Act.put, List.setIfInBounds_toArray, List.set_cons_zero, List.set_cons_succ]
  refine Seqo.light (v := (Value.func (.func 95) #[] #[])) rfl (by kernel_rfl) ?_ ?_
  · intro w hSw
    have hc := hSw.2 _ rfl
    unfold cf at hc
    go_simp
    try rfl
  try simp only [Act.put, List.setIfInBounds_toArray, List.set_cons_zero, List.set_cons_succ]
  refine Seqo.callw (fun v => ∃ p used er, v = .tuple #[.string p, .int .i64 used, .int .i64 er] ∧ U p used er ∧ p.size ≤ 1099511627776) (fun _ w' => Below w2.heap.size w2 w') rfl (by kernel_rfl) (by kernel_rfl) (fun w hSw => by (try dsimp only at hSw); go_simp; exact ⟨rfl, rfl⟩) ?_ (.inr (by kernel_rfl)) ?_
  · intro w3 hSw
    refine (HP2.out w3).mono ?_
    rintro e w4 ⟨p, used, er, rfl, hU, hps, hb4⟩
    exact ⟨_, rfl, ⟨p, used, er, rfl, hU, hps⟩, hSw.1.trans (hb4.mono hSw.1.size)⟩
  rintro v ⟨p, used, er, rfl, hU, hps⟩
  try simp only [Act.put, List.setIfInBounds_toArray, List.set_cons_zero, List.set_cons_succ]
  refine Seqo.light (v := ?_) rfl (by kernel_rfl) ?_ ?_
  rotate_left 1
  focus (intro w hSw; (try dsimp only at hSw); go_simp; try with_reducible rfl)
  try simp only [Act.put, List.setIfInBounds_toArray, List.set_cons_zero, List.set_cons_succ]
  refine Seqo.light (v := ?_) rfl (by kernel_rfl) ?_ ?_
  rotate_left 1
  focus (intro w hSw; (try dsimp only at hSw); go_simp; try with_reducible rfl)
  try simp only [Act.put, List.setIfInBounds_toArray, List.set_cons_zero, List.set_cons_succ]
  refine Seqo.light (v := ?_) rfl (by kernel_rfl) ?_ ?_
  rotate_left 1
  focus (intro w hSw; (try dsimp only at hSw); go_simp; try with_reducible rfl)
  try simp only [Act.put, List.setIfInBounds_toArray, List.set_cons_zero, List.set_cons_succ]
  refine Seqo.light (v := ?_) rfl (by kernel_rfl) ?_ ?_
  rotate_left 1
  focus (intro w hSw; (try dsimp only at hSw); go_simp; try with_reducible rfl)
  try simp only [Act.put, List.setIfInBounds_toArray, List.set_cons_zero, List.set_cons_succ]
  refine Seqo.light (v := ?_) rfl (by kernel_rfl) ?_ ?_
  rotate_left 1
  focus (intro w hSw; (try dsimp only at hSw); go_simp; try with_reducible rfl)
  try simp only [Act.put, List.setIfInBounds_toArray, List.set_cons_zero, List.set_cons_succ]
  refine Seqo.light (v := ?_) rfl (by kernel_rfl) ?_ ?_
  rotate_left 1
  focus (intro w hSw; (try dsimp only at hSw); go_simp; try with_reducible rfl)
  try simp only [Act.put, List.setIfInBounds_toArray, List.set_cons_zero, List.set_cons_succ]
  refine Seqo.light (v := ?_) rfl (by kernel_rfl) ?_ ?_
  rotate_left 1
  focus (intro w hSw; (try dsimp only at hSw); go_simp; try with_reducible rfl)
  try simp only [Act.put, List.setIfInBounds_toArray, List.set_cons_zero, List.set_cons_succ]
  refine Seqo.nil fun w3 hS3 => ?_
  have HB3 := Lib.hid hS3
  have HU := Lib.hid hU
  have hS3' : Below w2.heap.size w2 w3 := hS3
  have hr0 : w3.heap[w.heap.size]? = some (.cells #[.int .i64 0, .int .i64 0, .int .i64 0, .int .i64 0, .int .i64 0, .slice none 0 0] 59 (0, 0)) := (hS3'.block _ (lt_of_heap HQ0.out)).trans HQ0.out
  have hr1 : w3.heap[w1.heap.size]? = some (.cells #[.int .i64 hbase, .int .i64 hcount, .int .i64 hview, .int .i64 hproducer, .int .i64 hseq, .slice none 0 0] 59 (0, 0)) := (hS3'.block _ (lt_of_heap HQ1.out)).trans HQ1.out
  have hlt3 := lt_of_heap hr0
  have HW3 := Lib.hid (HQ2.out.trans (hS3'.mono HQ2.out.size))
  have HLT3 := Lib.hid hlt3
  have HR0 := Lib.hid hr0
  have HR1 := Lib.hid hr1
  obtain ⟨z0, z1, z2, z3, z4, z5⟩ := cells6 hr0
  obtain ⟨y0, y1, y2, y3, y4, y5⟩ := cells6 hr1
  have hfz : ∀ j, w3.frozen? ⟨w.heap.size, j, none⟩ = false := fun j => Lib.frozen_of_heap hr0 j
  have hfy : ∀ j, w3.frozen? ⟨w1.heap.size, j, none⟩ = false := fun j => Lib.frozen_of_heap hr1 j
  clear hS3 hS3' hU hr0 hr1 hlt3
  have hbad : ¬ (er = 0 ∧ used = (zl.length : Int) ∧ (p.size : Int) = pn) → bodyOf s.data.toList p used er = none := fun hn => by
    unfold bodyOf
    rw [if_neg (by rw [HZZ.out, ← HTL.out, HPN.out]; exact hn)]
  have HBAD := Lib.hid hbad
  clear hbad
  by_cases he : er = 0
  · subst he
    have hzs : ((str zl).size : Int) = (zl.length : Int) := by rw [str_size]
    by_cases hu : used = (zl.length : Int)
    · have hu1 : (used == ((str zl).size : Int)) = true := beq_iff_eq.2 (by rw [hzs]; exact hu)
      have hu2 : (used != ((str zl).size : Int)) = false := by rw [bne, hu1]; rfl
      by_cases hpz : (p.size : Int) = pn
      · have hp1 : ((p.size : Int) == pn) = true := beq_iff_eq.2 hpz
        have hp2 : ((p.size : Int) != pn) = false := by rw [bne, hp1]; rfl
        have HGOOD := Lib.hid (show (0 : Int) = 0 ∧ used = (zl.length : Int) ∧ (p.size : Int) = pn from ⟨rfl, hu, hpz⟩)
        clear hu hpz hzs
        go_upto_region 12 with (fail)
        have hr0 := HR0.out
        have hr1 := HR1.out
        have hw3 := HW3.out
        have hnr0 := (nv_small t.data.toList 23 2 (by decide)).1
        have hnr1 : nv t.data.toList 23 2 ≤ 65535 := by
          rw [(nv_small t.data.toList 23 2 (by decide)).2.2]
          have h := num_lt ((t.data.toList.drop 23).take 2)
          have h2 : 256 ^ ((t.data.toList.drop 23).take 2).length ≤ 256 ^ 2 := Nat.pow_le_pow_right (by decide) (by rw [List.length_take]; omega)
          omega
        generalize hnr : nv t.data.toList 23 2 = nr at *
        have HNR := Lib.hid hnr
        clear hnr
        refine wp_region_seqo [0, 1, 2, 3, 4, 5, 6, 7, 8, 9, 10, 11] (S := (fun w' => w'.heap[w.heap.size]? = some (.cells #[.int .i64 0, .int .i64 0, .int .i64 0, .int .i64 0, .int .i64 0, .slice none 0 0] 59 (0, 0)) ∧ (∃ x5 : Value, w'.heap[w1.heap.size]? = some (.cells #[.int .i64 hbase, .int .i64 hcount, .int .i64 hview, .int .i64 hproducer, .int .i64 hseq, x5] 59 (0, 0))) ∧ w'.cell? ⟨w1.heap.size, 0, none⟩ = some (.int .i64 hbase) ∧ Below w.heap.size w w')) (by kernel_rfl) (by kernel_rfl) ⟨hr0, ⟨_, hr1⟩, y0, hw3.drew⟩ ?_
        have HNE := Lib.hid (show w.heap.size ≠ w1.heap.size from by have := HLT.out; omega)
        have HLE := HLT
        clear hr0 hr1 hw3
        refine Seqo.light (v := ?_) rfl (by kernel_rfl) ?_ ?_
        rotate_left 1
        focus (intro w hSw; (try dsimp only at hSw); go_simp; try with_reducible rfl)
        try simp only [Act.put, List.setIfInBounds_toArray, List.set_cons_zero, List.set_cons_succ]
        refine Seqo.light (v := ?_) rfl (by kernel_rfl) ?_ ?_
        rotate_left 1
        focus (intro w hSw; (try dsimp only at hSw); go_simp; try with_reducible rfl)
        try simp only [Act.put, List.setIfInBounds_toArray, List.set_cons_zero, List.set_cons_succ]
        refine Seqo.light (v := ?_) rfl (by kernel_rfl) ?_ ?_
        rotate_left 1
        focus (intro w hSw; (try dsimp only at hSw); go_simp; try with_reducible rfl)
        try simp only [Act.put, List.setIfInBounds_toArray, List.set_cons_zero, List.set_cons_succ]
        refine Seqo.light (v := ?_) rfl (by kernel_rfl) ?_ ?_
        rotate_left 1
        focus (intro w hSw; (try dsimp only at hSw); go_simp; try with_reducible rfl)
        try simp only [Act.put, List.setIfInBounds_toArray, List.set_cons_zero, List.set_cons_succ]
        refine Seqo.call (.int .i64 nr) rfl (by kernel_rfl) (by kernel_rfl) (fun w hSw => by (try dsimp only at hSw); go_simp; exact ⟨rfl, rfl⟩) ?_ ?_
        · intro w4 hSw
          refine (number_any w4 t 23 2 23 2 rfl rfl (by decide) (by decide) (by omega) (by omega)).mono ?_
          rintro e w5 ⟨rfl, rfl⟩
          exact ⟨by rw [HNR.out], hSw⟩
        try simp only [Act.put, List.setIfInBounds_toArray, List.set_cons_zero, List.set_cons_succ]
        refine Seqo.callw (fun v => (∃ rs ap cap, ofRecs p.data.toList hbase nr = some rs ∧ v = .tuple #[.slice ap rs.length cap, .int .i64 0] ∧ rs.length ≤ cap) ∨ (ofRecs p.data.toList hbase nr = none ∧ v = .tuple #[.slice none 0 0, .int .i64 90])) (fun v w' => (w'.heap[w.heap.size]? = some (.cells #[.int .i64 0, .int .i64 0, .int .i64 0, .int .i64 0, .int .i64 0, .slice none 0 0] 59 (0, 0)) ∧ (∃ x5 : Value, w'.heap[w1.heap.size]? = some (.cells #[.int .i64 hbase, .int .i64 hcount, .int .i64 hview, .int .i64 hproducer, .int .i64 hseq, x5] 59 (0, 0))) ∧ w'.cell? ⟨w1.heap.size, 0, none⟩ = some (.int .i64 hbase) ∧ Below w.heap.size w w') ∧ ∀ rs ap cap, ofRecs p.data.toList hbase nr = some rs → v = .tuple #[.slice ap rs.length cap, .int .i64 0] → RecsAt w' ap rs ∧ ∀ a, ap = some a → w1.heap.size < a.block) rfl (by kernel_rfl) (by kernel_rfl) (fun w hSw => by (try dsimp only at hSw); go_simp; exact ⟨rfl, rfl⟩) ?_ (.inl fun v w h => h.1) ?_
        · intro w4 hSw
          refine (of_all p hbase nr w4 hps (by omega)).mono ?_
          intro e w5 hpost
          obtain ⟨d0, ⟨x5, d1⟩, d2, d5⟩ := hSw
          have hkeep : ∀ hb5 : Below w4.heap.size w4 w5, w5.heap[w.heap.size]? = some (.cells #[.int .i64 0, .int .i64 0, .int .i64 0, .int .i64 0, .int .i64 0, .slice none 0 0] 59 (0, 0)) ∧ (∃ x5 : Value, w5.heap[w1.heap.size]? = some (.cells #[.int .i64 hbase, .int .i64 hcount, .int .i64 hview, .int .i64 hproducer, .int .i64 hseq, x5] 59 (0, 0))) ∧ w5.cell? ⟨w1.heap.size, 0, none⟩ = some (.int .i64 hbase) ∧ Below w.heap.size w w5 := fun hb5 => by
            have e1 := (hb5.block _ (lt_of_heap d1)).trans d1
            obtain ⟨x0, _⟩ := cells6 e1
            exact ⟨(hb5.block _ (lt_of_heap d0)).trans d0, ⟨_, e1⟩, x0, d5.trans (hb5.mono d5.size)⟩
          rcases hpost with ⟨rs, ap, cap, h1, rfl, h2, h3, h4, h5b⟩ | ⟨h1, rfl, h4⟩
          · refine ⟨_, rfl, .inl ⟨rs, ap, cap, h1, rfl, h2⟩, hkeep h4, fun rs' ap' cap' h5 h6 => ?_⟩
            rw [h1] at h5
            cases h5
            cases h6
            exact ⟨h3, fun a ha => by have := h5b a ha; have := lt_of_heap d1; omega⟩
          · refine ⟨_, rfl, .inr ⟨h1, rfl⟩, hkeep h4, fun rs' ap' cap' h5 _ => ?_⟩
            rw [h1] at h5; cases h5
        rintro v (⟨rs, ap, cap, hrs, rfl, hcap⟩ | ⟨hrs, rfl⟩)
        · try simp only [Act.put, List.setIfInBounds_toArray, List.set_cons_zero, List.set_cons_succ]
          refine Seqo.light (v := ?_) rfl (by kernel_rfl) ?_ ?_
          rotate_left 1
          focus (intro w hSw; (try dsimp only at hSw); go_simp; try with_reducible rfl)
          try simp only [Act.put, List.setIfInBounds_toArray, List.set_cons_zero, List.set_cons_succ]
          refine Seqo.light (v := ?_) rfl (by kernel_rfl) ?_ ?_
          rotate_left 1
          focus (intro w hSw; (try dsimp only at hSw); go_simp; try with_reducible rfl)
          try simp only [Act.put, List.setIfInBounds_toArray, List.set_cons_zero, List.set_cons_succ]
          refine Seqo.light (v := ?_) rfl (by kernel_rfl) ?_ ?_
          rotate_left 1
          focus (intro w hSw; (try dsimp only at hSw); go_simp; try with_reducible rfl)
          try simp only [Act.put, List.setIfInBounds_toArray, List.set_cons_zero, List.set_cons_succ]
          refine Seqo.light (v := ?_) rfl (by kernel_rfl) ?_ ?_
          rotate_left 1
          focus (intro w hSw; (try dsimp only at hSw); go_simp; try with_reducible rfl)
          try simp only [Act.put, List.setIfInBounds_toArray, List.set_cons_zero, List.set_cons_succ]
          refine Seqo.storew (fun w' => (w'.heap[w.heap.size]? = some (.cells #[.int .i64 0, .int .i64 0, .int .i64 0, .int .i64 0, .int .i64 0, .slice none 0 0] 59 (0, 0)) ∧ (∃ x5 : Value, w'.heap[w1.heap.size]? = some (.cells #[.int .i64 hbase, .int .i64 hcount, .int .i64 hview, .int .i64 hproducer, .int .i64 hseq, x5] 59 (0, 0))) ∧ w'.cell? ⟨w1.heap.size, 0, none⟩ = some (.int .i64 hbase) ∧ Below w.heap.size w w') ∧ w'.heap[w1.heap.size]? = some (.cells #[.int .i64 hbase, .int .i64 hcount, .int .i64 hview, .int .i64 hproducer, .int .i64 hseq, .slice ap rs.length cap] 59 (0, 0)) ∧ RecsAt w' ap rs ∧ ∀ a, ap = some a → w1.heap.size < a.block) rfl (by kernel_rfl) (by kernel_rfl) ?_ (.inl fun w h => ⟨h.1, fun rs' ap' cap' h5 h6 => by rw [hrs] at h5; cases h5; cases h6; exact ⟨h.2.2.1, h.2.2.2⟩⟩) ?_
          · intro w4 hSw
            obtain ⟨⟨d0, ⟨x5, d1⟩, d2, d5⟩, d6⟩ := hSw
            obtain ⟨e0, e1, e2, e3, e4, e5⟩ := cells6 d1
            have ef := Lib.frozen_of_heap d1 5
            have D6 := Lib.hid d6
            have D1 := Lib.hid d1
            have D0 := Lib.hid d0
            have D5 := Lib.hid d5
            clear d6 d1 d0 d5
            refine ⟨w4.setCell ⟨w1.heap.size, 5, none⟩ (.slice ap rs.length cap), by go_simp, ⟨?_, ?_, ?_, ?_⟩, ?_, ?_⟩
            · rw [set_other _ _ _ _ HNE.out]; exact D0.out
            · exact ⟨_, (set_cells _ D1.out).trans rfl⟩
            · rw [cell_of_row _ _ _ _ _ _ ((set_cells (.slice ap rs.length cap) D1.out).trans rfl)]; rfl
            · exact D5.out.setCell (p := ⟨w1.heap.size, 5, none⟩) (Nat.le_of_lt HLE.out) _
            · exact (set_cells _ D1.out).trans rfl
            · exact ⟨RecsAt.other (D6.out rs ap cap hrs rfl).1 (set_size _ _ _) (fun k hk => set_other _ _ _ _ hk) (.inr fun a ha => Nat.ne_of_gt ((D6.out rs ap cap hrs rfl).2 a ha)), (D6.out rs ap cap hrs rfl).2⟩
          try simp only [Act.put, List.setIfInBounds_toArray, List.set_cons_zero, List.set_cons_succ]
          refine Seqo.light (v := ?_) rfl (by kernel_rfl) ?_ ?_
          rotate_left 1
          focus (intro w hSw; (try dsimp only at hSw); go_simp; try with_reducible rfl)
          try simp only [Act.put, List.setIfInBounds_toArray, List.set_cons_zero, List.set_cons_succ]
          refine Seqo.nil fun w4 hS4 => ?_
          obtain ⟨⟨d0, _, _, d5⟩, d1, d6⟩ := hS4
          obtain ⟨z0, z1, z2, z3, z4, z5⟩ := cells6 d0
          obtain ⟨y0, y1, y2, y3, y4, y5⟩ := cells6 d1
          have hfz : ∀ j, w4.frozen? ⟨w.heap.size, j, none⟩ = false := fun j => Lib.frozen_of_heap d0 j
          have HD0 := Lib.hid d0
          have HD1 := Lib.hid d1
          have HD5 := Lib.hid d5
          have HD6 := Lib.hid d6
          have HRS := Lib.hid hrs
          have hbo : bodyOf s.data.toList p used 0 = (match (some rs : Option (List Rec)) with | some rs => if mayB hbase hcount hview hproducer hseq rs = true then some rs else none | none => none) := by
            unfold bodyOf
            rw [if_pos (by rw [HZZ.out, ← HTL.out, HPN.out]; exact HGOOD.out), ← HTL.out, HNR.out, HHD.out]
            simp only
            rw [HRS.out]
          have HBO := Lib.hid hbo
          clear hbo d0 d1 d5 d6 hrs
          have hrl : rs.length ≤ 1048576 := by have := ofRecs_length HRS.out; omega
          have HRL := Lib.hid hrl
          have HCAP := Lib.hid hcap
          clear hrl hcap
          go_wp2_with fail
          refine (check_any hbase hcount hview hproducer hseq ap cap rs w4 HD6.out.1 HRL.out).mono ?_
          rintro e w5 ⟨rfl, hb5⟩
          have hd0 := (hb5.block _ (lt_of_heap HD0.out)).trans HD0.out
          have hd1 := (hb5.block _ (lt_of_heap HD1.out)).trans HD1.out
          have HR5 := Lib.hid (HD6.out.1.below hb5)
          have HW5 := Lib.hid (HD5.out.trans (hb5.mono HD5.out.size))
          clear z0 z1 z2 z3 z4 z5 y0 y1 y2 y3 y4 y5 hfz hb5
          obtain ⟨z0, z1, z2, z3, z4, z5⟩ := cells6 hd0
          obtain ⟨y0, y1, y2, y3, y4, y5⟩ := cells6 hd1
          have hfz : ∀ j, w5.frozen? ⟨w.heap.size, j, none⟩ = false := fun j => Lib.frozen_of_heap hd0 j
          clear hd0 hd1
          cases hmb : mayB hbase hcount hview hproducer hseq rs with
          | true =>
            have HNO := Lib.hid (show bodyOf s.data.toList p used 0 = some rs from by rw [HBO.out]; simp only [hmb, if_true])
            have HHH := Lib.hid (show ∀ a, ap = some a → w.heap.size < a.block from fun a ha => by have := HD6.out.2 a ha; have := HLE.out; omega)
            rw [chk_yes rfl]
            clear hmb
            go_wp2
            refine bodyPost_ret (v := .tuple #[.agg #[.int .i64 hbase, .int .i64 hcount, .int .i64 hview, .int .i64 hproducer, .int .i64 hseq, .slice ap rs.length cap], .int .i64 hn, .int .i64 0]) (by simp [results, Tryz.results23, go_sem, zb, *]) rfl ⟨p, used, 0, HU.out, .inl ⟨rs, ap, cap, HNO.out, by rfl, HCAP.out, RecsAt.set6 HR5.out HHH.out _ _ _ _ _ _, below6 HW5.out _ _ _ _ _ _⟩⟩
          | false =>
            have HNO := Lib.hid (show bodyOf s.data.toList p used 0 = none from by rw [HBO.out]; simp only [hmb]; rfl)
            rw [chk_no rfl]
            clear hmb
            go_wp2
            refine bodyPost_ret (v := .tuple #[zb, .int .i64 0, .int .i64 100]) (by simp [results, Tryz.results23, go_sem, zb, *]) rfl ⟨p, used, 0, HU.out, .inr ⟨HNO.out, rfl, below6 HW5.out _ _ _ _ _ _⟩⟩
        · try simp only [Act.put, List.setIfInBounds_toArray, List.set_cons_zero, List.set_cons_succ]
          refine Seqo.light (v := ?_) rfl (by kernel_rfl) ?_ ?_
          rotate_left 1
          focus (intro w hSw; (try dsimp only at hSw); go_simp; try with_reducible rfl)
          try simp only [Act.put, List.setIfInBounds_toArray, List.set_cons_zero, List.set_cons_succ]
          refine Seqo.light (v := ?_) rfl (by kernel_rfl) ?_ ?_
          rotate_left 1
          focus (intro w hSw; (try dsimp only at hSw); go_simp; try with_reducible rfl)
          try simp only [Act.put, List.setIfInBounds_toArray, List.set_cons_zero, List.set_cons_succ]
          refine Seqo.light (v := ?_) rfl (by kernel_rfl) ?_ ?_
          rotate_left 1
          focus (intro w hSw; (try dsimp only at hSw); go_simp; try with_reducible rfl)
          try simp only [Act.put, List.setIfInBounds_toArray, List.set_cons_zero, List.set_cons_succ]
          refine Seqo.light (v := ?_) rfl (by kernel_rfl) ?_ ?_
          rotate_left 1
          focus (intro w hSw; (try dsimp only at hSw); go_simp; try with_reducible rfl)
          try simp only [Act.put, List.setIfInBounds_toArray, List.set_cons_zero, List.set_cons_succ]
          refine Seqo.storew (fun w' => (w'.heap[w.heap.size]? = some (.cells #[.int .i64 0, .int .i64 0, .int .i64 0, .int .i64 0, .int .i64 0, .slice none 0 0] 59 (0, 0)) ∧ (∃ x5 : Value, w'.heap[w1.heap.size]? = some (.cells #[.int .i64 hbase, .int .i64 hcount, .int .i64 hview, .int .i64 hproducer, .int .i64 hseq, x5] 59 (0, 0))) ∧ w'.cell? ⟨w1.heap.size, 0, none⟩ = some (.int .i64 hbase) ∧ Below w.heap.size w w') ∧ w'.heap[w1.heap.size]? = some (.cells #[.int .i64 hbase, .int .i64 hcount, .int .i64 hview, .int .i64 hproducer, .int .i64 hseq, .slice none 0 0] 59 (0, 0)) ∧ True) rfl (by kernel_rfl) (by kernel_rfl) ?_ (.inl fun w h => ⟨h.1, fun rs' ap' cap' h5 _ => by rw [hrs] at h5; cases h5⟩) ?_
          · intro w4 hSw
            obtain ⟨⟨d0, ⟨x5, d1⟩, d2, d5⟩, d6⟩ := hSw
            obtain ⟨e0, e1, e2, e3, e4, e5⟩ := cells6 d1
            have ef := Lib.frozen_of_heap d1 5
            have D6 := Lib.hid d6
            have D1 := Lib.hid d1
            have D0 := Lib.hid d0
            have D5 := Lib.hid d5
            clear d6 d1 d0 d5
            refine ⟨w4.setCell ⟨w1.heap.size, 5, none⟩ (.slice none 0 0), by go_simp, ⟨?_, ?_, ?_, ?_⟩, ?_, ?_⟩
            · rw [set_other _ _ _ _ HNE.out]; exact D0.out
            · exact ⟨_, (set_cells _ D1.out).trans rfl⟩
            · rw [cell_of_row _ _ _ _ _ _ ((set_cells (.slice none 0 0) D1.out).trans rfl)]; rfl
            · exact D5.out.setCell (p := ⟨w1.heap.size, 5, none⟩) (Nat.le_of_lt HLE.out) _
            · exact (set_cells _ D1.out).trans rfl
            · trivial
          try simp only [Act.put, List.setIfInBounds_toArray, List.set_cons_zero, List.set_cons_succ]
          refine Seqo.light (v := ?_) rfl (by kernel_rfl) ?_ ?_
          rotate_left 1
          focus (intro w hSw; (try dsimp only at hSw); go_simp; try with_reducible rfl)
          try simp only [Act.put, List.setIfInBounds_toArray, List.set_cons_zero, List.set_cons_succ]
          refine Seqo.nil fun w4 hS4 => ?_
          obtain ⟨⟨d0, _, _, d5⟩, d1, d6⟩ := hS4
          obtain ⟨z0, z1, z2, z3, z4, z5⟩ := cells6 d0
          obtain ⟨y0, y1, y2, y3, y4, y5⟩ := cells6 d1
          have hfz : ∀ j, w4.frozen? ⟨w.heap.size, j, none⟩ = false := fun j => Lib.frozen_of_heap d0 j
          have HD0 := Lib.hid d0
          have HD1 := Lib.hid d1
          have HD5 := Lib.hid d5
          have HD6 := Lib.hid d6
          have HRS := Lib.hid hrs
          have hbo : bodyOf s.data.toList p used 0 = (match (none : Option (List Rec)) with | some rs => if mayB hbase hcount hview hproducer hseq rs = true then some rs else none | none => none) := by
            unfold bodyOf
            rw [if_pos (by rw [HZZ.out, ← HTL.out, HPN.out]; exact HGOOD.out), ← HTL.out, HNR.out, HHD.out]
            simp only
            rw [HRS.out]
          have HBO := Lib.hid hbo
          clear hbo d0 d1 d5 d6 hrs
          have HNO := Lib.hid (show bodyOf s.data.toList p used 0 = none from by rw [HBO.out])
          go_wp2
          refine bodyPost_ret (v := .tuple #[zb, .int .i64 0, .int .i64 100]) (by simp [results, Tryz.results23, go_sem, zb, *]) rfl ⟨p, used, 0, HU.out, .inr ⟨HNO.out, rfl, below6 HD5.out _ _ _ _ _ _⟩⟩
      · have hp1 : ((p.size : Int) == pn) = false := beq_eq_false_iff_ne.2 hpz
        have hp2 : ((p.size : Int) != pn) = true := by rw [bne, hp1]; rfl
        have HNO := Lib.hid (HBAD.out (fun h => hpz h.2.2))
        clear hu hpz hzs
        go_wp2
        refine bodyPost_ret (v := .tuple #[zb, .int .i64 0, .int .i64 100]) (by simp [results, Tryz.results23, go_sem, zb, *]) rfl ⟨p, used, 0, HU.out, .inr ⟨HNO.out, rfl, below6 HW3.out _ _ _ _ _ _⟩⟩
    · have hu1 : (used == ((str zl).size : Int)) = false := beq_eq_false_iff_ne.2 (by rw [hzs]; exact hu)
      have hu2 : (used != ((str zl).size : Int)) = true := by rw [bne, hu1]; rfl
      have HNO := Lib.hid (HBAD.out (fun h => hu h.2.1))
      clear hu hzs
      go_wp2
      refine bodyPost_ret (v := .tuple #[zb, .int .i64 0, .int .i64 100]) (by simp [results, Tryz.results23, go_sem, zb, *]) rfl ⟨p, used, 0, HU.out, .inr ⟨HNO.out, rfl, below6 HW3.out _ _ _ _ _ _⟩⟩
  · have he1 : (er == 0) = false := beq_eq_false_iff_ne.2 he
    have he2 : (er != 0) = true := by simp [he]
    have HNO := Lib.hid (HBAD.out (fun h => he h.1))
    clear he
    go_wp2
    refine bodyPost_ret (v := .tuple #[zb, .int .i64 0, .int .i64 100]) (by simp [results, Tryz.results23, go_sem, zb, *]) rfl ⟨p, used, er, HU.out, .inr ⟨HNO.out, rfl, below6 HW3.out _ _ _ _ _ _⟩⟩
set_option maxRecDepth 100000 in
set_option maxHeartbeats 400000 in
/-- Of, whatever it is asked -/
theorem of_batch (s : ByteArray) (w : World) (hsz : s.size ≤ 1099511627776) (U : Nat → ByteArray → Int → Int → Prop)
    (hp0 : headErr s.data.toList = 0 → ((sumd s.data.toList).getD 22 0).toNat = 0 → nv (sumd s.data.toList) 25 4 ≤ 1048576 → ∀ W, Calls Tryz.prog 91 #[.string (str ((sumd s.data.toList).drop 29)), .int .i64 (nv (sumd s.data.toList) 25 4)] W fun e w' => ∃ p used er, e = .returned (.tuple #[.string p, .int .i64 used, .int .i64 er]) ∧ U 0 p used er ∧ p.size ≤ 1099511627776 ∧ Below W.heap.size W w')
    (hp1 : headErr s.data.toList = 0 → ((sumd s.data.toList).getD 22 0).toNat = 1 → nv (sumd s.data.toList) 25 4 ≤ 1048576 → ∀ W, Calls Tryz.prog 93 #[.string (str ((sumd s.data.toList).drop 29)), .int .i64 (nv (sumd s.data.toList) 25 4)] W fun e w' => ∃ p used er, e = .returned (.tuple #[.string p, .int .i64 used, .int .i64 er]) ∧ U 1 p used er ∧ p.size ≤ 1099511627776 ∧ Below W.heap.size W w')
    (hp2 : headErr s.data.toList = 0 → ((sumd s.data.toList).getD 22 0).toNat = 2 → nv (sumd s.data.toList) 25 4 ≤ 1048576 → ∀ W, Calls Tryz.prog 95 #[.string (str ((sumd s.data.toList).drop 29)), .int .i64 (nv (sumd s.data.toList) 25 4)] W fun e w' => ∃ p used er, e = .returned (.tuple #[.string p, .int .i64 used, .int .i64 er]) ∧ U 2 p used er ∧ p.size ≤ 1099511627776 ∧ Below W.heap.size W w') :
    Calls Tryz.prog 23 #[.string s] w fun e w' =>
      (headErr s.data.toList ≠ 0 ∧ e = .returned (.tuple #[zb, .int .i64 0, .int .i64 (headErr s.data.toList)]) ∧ Below w.heap.size w w') ∨
      (headErr s.data.toList = 0 ∧ 1048576 < nv (sumd s.data.toList) 25 4 ∧ e = .returned (.tuple #[zb, .int .i64 0, .int .i64 100]) ∧ Below w.heap.size w w') ∨
      (headErr s.data.toList = 0 ∧ nv (sumd s.data.toList) 25 4 ≤ 1048576 ∧ ∃ p used er, U ((sumd s.data.toList).getD 22 0).toNat p used er ∧ BodyPost (hdOf s.data.toList) (bodyOf s.data.toList p used er) w e w') := by
  by_cases h0 : headErr s.data.toList = 0
  · by_cases hl : 1048576 < nv (sumd s.data.toList) 25 4
    · refine (of_long s w hsz h0 hl).mono ?_
      rintro e w' ⟨he, hb⟩
      exact .inr (.inl ⟨h0, hl, he, hb⟩)
    · have hl' : nv (sumd s.data.toList) 25 4 ≤ 1048576 := by omega
      have hf := (head_ok h0).2.2.2
      unfold fits at hf
      simp only [Bool.and_eq_true, decide_eq_true_eq] at hf
      have h3 := hf.2.2
      have hc : ((sumd s.data.toList).getD 22 0).toNat = 0 ∨ ((sumd s.data.toList).getD 22 0).toNat = 1 ∨ ((sumd s.data.toList).getD 22 0).toNat = 2 := by omega
      rcases hc with hc | hc | hc
      · refine (of_go0 s w hsz h0 hl' hc (U 0) (hp0 h0 hc hl')).mono ?_
        rintro e w' ⟨p, used, er, hU, hb⟩
        exact .inr (.inr ⟨h0, hl', p, used, er, by rw [hc]; exact hU, hb⟩)
      · refine (of_go1 s w hsz h0 hl' hc (U 1) (hp1 h0 hc hl')).mono ?_
        rintro e w' ⟨p, used, er, hU, hb⟩
        exact .inr (.inr ⟨h0, hl', p, used, er, by rw [hc]; exact hU, hb⟩)
      · refine (of_go2 s w hsz h0 hl' hc (U 2) (hp2 h0 hc hl')).mono ?_
        rintro e w' ⟨p, used, er, hU, hb⟩
        exact .inr (.inr ⟨h0, hl', p, used, er, by rw [hc]; exact hU, hb⟩)
  · refine (of_nohead s w hsz _ rfl h0).mono ?_
    rintro e w' ⟨he, hb⟩
    exact .inl ⟨h0, he, hb⟩
end Go.Proofs.YtcioejacijkbcaaGreatDoor.Ba
