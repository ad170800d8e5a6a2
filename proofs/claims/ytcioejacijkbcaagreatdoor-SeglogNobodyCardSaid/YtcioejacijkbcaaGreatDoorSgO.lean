/- a batch by a recipe: the walk. -/
import Derived.Test.YtcioejacijkbcaaGreatDoorSgI
import Derived.Test.YtcioejacijkbcaaGreatDoorRfE
import Derived.Deep.RegionLaw
import Derived.Deep.AppendLies
import Derived.Deep.Cut
namespace Go.Proofs.YtcioejacijkbcaaGreatDoor.Sg
open Go.RowKit Go.Maps Go.ChangeMaps Go.WideMaps Go.Proofs.YtcioejacijkbcaaGreatDoor.Su Go.Proofs.YtcioejacijkbcaaGreatDoor.Bt Go.Proofs.YtcioejacijkbcaaGreatDoor.Sb Go.Proofs.YtcioejacijkbcaaGreatDoor.Vd Go.Proofs.YtcioejacijkbcaaGreatDoor.Rc Go.Proofs.YtcioejacijkbcaaGreatDoor.Ba Go.Proofs.YtcioejacijkbcaaGreatDoor.Rf
set_option linter.unusedVariables false
set_option linter.unusedSimpArgs false
theorem and_mask (n : Int) (m k : Nat) (hm : m = 2 ^ k - 1) (hk : k < 32) : bits .and .i64 n m = n % (2 ^ k : Nat) := by
  have hlt : 2 ^ k ≤ 2 ^ 31 := Nat.pow_le_pow_right (by decide) (by omega)
  have h127 : (BitVec.ofInt 64 (m : Int)).toNat = 2 ^ k - 1 := by
    rw [BitVec.toNat_ofInt, hm]
    omega
  have key : (BitVec.ofInt 64 n &&& BitVec.ofInt 64 (m : Int)).toNat = (n % ((2 ^ 64 : Nat) : Int)).toNat % 2 ^ k := by
    rw [BitVec.toNat_and, BitVec.toNat_ofInt, h127, Nat.and_two_pow_sub_one_eq_mod]
  show IntKind.i64.wrap ((BitVec.ofInt 64 n &&& BitVec.ofInt 64 (m : Int)).toNat : Nat) = n % (2 ^ k : Nat)
  rw [key, IntKind.wrap_i64]
  have hp : 0 < 2 ^ k := Nat.two_pow_pos k
  have hdvd : (2 ^ k : Nat) ∣ 2 ^ 64 := Nat.pow_dvd_pow 2 (by omega)
  have h1 : ((n % ((2 ^ 64 : Nat) : Int)).toNat % 2 ^ k : Nat) < 2 ^ k := Nat.mod_lt _ hp
  have h2 : (((n % ((2 ^ 64 : Nat) : Int)).toNat % 2 ^ k : Nat) : Int) = n % (2 ^ k : Nat) := by
    rw [Int.natCast_emod, Int.toNat_of_nonneg (Int.emod_nonneg _ (by decide))]
    exact Int.emod_emod_of_dvd n (by exact_mod_cast hdvd)
  rw [h2]
  have h3 : 0 ≤ n % ((2 ^ k : Nat) : Int) := Int.emod_nonneg _ (by omega)
  have h4 : n % ((2 ^ k : Nat) : Int) < (2 ^ k : Nat) := Int.emod_lt_of_pos _ (by omega)
  omega
theorem mask_nat (n : Int) (m k : Nat) (hm : m = 2 ^ k - 1) (hk : k < 32) : ∃ x : Nat, x < 2 ^ k ∧ bits .and .i64 n m = (x : Int) := by
  have hp : 0 < 2 ^ k := Nat.two_pow_pos k
  refine ⟨(n % ((2 ^ k : Nat) : Int)).toNat, ?_, ?_⟩
  · have h4 : n % ((2 ^ k : Nat) : Int) < (2 ^ k : Nat) := Int.emod_lt_of_pos _ (by omega)
    have h3 : 0 ≤ n % ((2 ^ k : Nat) : Int) := Int.emod_nonneg _ (by omega)
    omega
  · rw [and_mask n m k hm hk, Int.toNat_of_nonneg (Int.emod_nonneg _ (by omega))]
/-- one record more, in a region that draws -/
theorem step_append_rec {w : World} {ops : Array Oper} {o : Oper} {a : Act} {K : Act → World → Prop} {Q : Exit → Act → World → Prop} {E : Prop} (hgd : o.guard = none) (s x : Operand)
    (ho : o.op = .call { callee := .builtin .append, args := #[s, x], argTypes := #[49, 49] })
    (base : Nat) (v : Value) (rs : List Rec) (hs : a.eval s = v) (hown : Recs w base v rs)
    (b : Nat) (r : Rec) (hx : a.eval x = .slice (some ⟨b, 0, none⟩) 1 1) (hc : w.heap[b]? = some (.cells #[.int .i64 r.o, .string r.k, .string r.v, .bool r.g] 62 (0, 0))) (hsz : rs.length ≤ 1048576) (hbase : base ≤ w.heap.size)
    (h : ∀ g cap w', Recs w' base (.slice (some ⟨g, 0, none⟩) (rs.length + 1) cap) (rs ++ [r]) → w.grownBy w' v.ownBlock → (v.ownBlock = some g ∨ g = w.heap.size) → g < w'.heap.size → K (a.put o.dst (.slice (some ⟨g, 0, none⟩) (rs.length + 1) cap)) w') :
    if Region.wanted o (yielded ops a.tmps) = true then Oper.wp Tryz.prog o a w K Q else E := by
  obtain ⟨i0, hi, hz0, hz1, hz2⟩ := info_parts infoR
  refine step_append_lies w hgd s x 49 ho base 62 i0 _ 4 48 Tryz.underlying49 hi hz0 hz1 hz2 rfl (by decide) v rs.length (rs.flatMap Rec.cells) hs hown ⟨b, 0, none⟩ 1 1 r.cells hx rfl ?_ ?_ (by decide) (by unfold maxLen; omega) (by omega) hbase w.heap.size rfl ?_
  · intro j u hu
    rw [add0, cell_of_row _ _ _ _ _ _ hc]
    have : j < 4 := (List.getElem?_eq_some_iff.1 hu).1
    rw [← hu]
    simp [Rec.cells]
  · intro u hu; simp [Rec.cells] at hu; rcases hu with rfl | rfl | rfl | rfl <;> rfl
  · intro g cap w' h1 h2 h3 h4
    exact h g cap w' (by simpa [Recs, Rec.cells] using h1) h2 h3 h4
theorem infoU8 : ((Tryz.prog.info? 5).map fun i => (i.zero, i.size, i.bytes)) = some (some (.int .u8 0), 1, 1) := by kernel_rfl
/-- a text of one byte -/
theorem one_str (W : World) (b : Nat) (x : Nat) (hx : x < 256) (h : W.heap[b]? = some (.cells #[.int .u8 (x : Int)] 5 (0, 0))) :
    (convert 60 9 (.slice (some ⟨b, 0, none⟩) 1 1)).run Tryz.prog W = .ok (.string { data := #[UInt8.ofNat x] }) W := by
  rw [run_convert_bytes_arg (P := Tryz.prog) _ _ _ Tryz.underlying60 Tryz.underlying5 b 0 1 1 [x] (by simp) ?_ _ Tryz.underlying9]
  · congr 2
  · intro j hj
    rw [cell_of h]
    obtain rfl : j = 0 := by simpa using hj
    simp
theorem cells_set (rs : List Rec) (i : Nat) (x : ByteArray) (hi : i < rs.length) : (rs.flatMap Rec.cells).set (i * 4 + 2) (.string x) = (rs.set i ⟨rs[i].o, rs[i].k, x, rs[i].g⟩).flatMap Rec.cells := by
  induction rs generalizing i with
  | nil => simp at hi
  | cons r rs ih =>
    cases i with
    | zero => simp [Rec.cells]
    | succ i =>
      simp only [List.flatMap_cons, List.set_cons_succ, List.getElem_cons_succ]
      rw [← ih i (by simpa using hi), List.set_append_right _ _ (by simp [Rec.cells]; omega)]
      congr 2
      simp [Rec.cells]; omega
/-- some records whose first values are gone -/
def Mix (base k : Nat) (v : ByteArray) (n j : Nat) (rs : List Rec) : Prop := rs.length = n ∧ ∀ i (h : i < rs.length), rs[i] = mrec base k (if i < j then ⟨#[]⟩ else v) true i
theorem Mix.start (base k : Nat) (v : ByteArray) (n : Nat) : Mix base k v n 0 (mrecs base k v true n) := by
  refine ⟨mrecs_length .., fun i h => ?_⟩
  simp [mrecs]
theorem Mix.done {base k : Nat} {v : ByteArray} {n : Nat} {rs : List Rec} (h : Mix base k v n n rs) : rs = mrecs base k ⟨#[]⟩ true n := by
  refine List.ext_getElem (by rw [h.1, mrecs_length]) fun i h1 h2 => ?_
  rw [h.2 i h1, if_pos (by rw [← h.1]; exact h1)]
  simp [mrecs]
theorem Mix.next {base k : Nat} {v : ByteArray} {n j : Nat} {rs : List Rec} (h : Mix base k v n j rs) (hj : j < rs.length) : Mix base k v n (j + 1) (rs.set j ⟨rs[j].o, rs[j].k, ⟨#[]⟩, rs[j].g⟩) := by
  refine ⟨by rw [List.length_set]; exact h.1, fun i hi => ?_⟩
  rw [List.getElem_set]
  have hi' : i < rs.length := by simpa using hi
  by_cases e : j = i
  · subst e
    rw [if_pos rfl, if_pos (Nat.lt_succ_self _), h.2 j hj]
    rfl
  · rw [if_neg e, h.2 i hi']
    congr 1
    by_cases h1 : i < j
    · rw [if_pos h1, if_pos (by omega)]
    · rw [if_neg h1, if_neg (by omega)]
theorem cells5 {w : World} {b : Nat} {v0 v1 v2 v3 v4 : Value} {t : TypeId} {fr : Nat × Nat} (h : w.heap[b]? = some (.cells #[v0, v1, v2, v3, v4] t fr)) :
    w.cell? ⟨b, 0, none⟩ = some v0 ∧ w.cell? ⟨b, 1, none⟩ = some v1 ∧ w.cell? ⟨b, 2, none⟩ = some v2 ∧ w.cell? ⟨b, 3, none⟩ = some v3 ∧ w.cell? ⟨b, 4, none⟩ = some v4 := by
  refine ⟨?_, ?_, ?_, ?_, ?_⟩ <;> rw [cell_of h] <;> rfl
/-- the rounds of the first loop -/
def MadeRel (w : World) (C K P Q : Int) (v : ByteArray) (base k p q n : Nat) (g : Bool) (i : Value) (wr : World) : Prop := ∃ (j : Nat) (rv : Value), i = .int .i64 j ∧ j ≤ n ∧
  wr.heap[w.heap.size]? = some (.cells #[.int .i64 C, .int .i64 K, .int .i64 P, .int .i64 Q, .string v] 30 (0, 0)) ∧
  wr.heap[w.heap.size + 1]? = some (.cells #[.int .i64 base, .int .i64 n, .int .i64 0, .int .i64 p, .int .i64 q, rv] 59 (0, 0)) ∧
  Recs wr (w.heap.size + 2) rv (mrecs base k v g j) ∧ Below w.heap.size w wr ∧ w.heap.size + 2 ≤ wr.heap.size
set_option maxRecDepth 100000 in
set_option maxHeartbeats 4000000 in
theorem made_walk (w : World) (C K P Q : Int) (v : ByteArray) (base c k p q : Nat) (hc' : bits .and .i64 C 7 = (c : Int)) (hc : c < 8) (hk' : bits .and .i64 K 7 = (k : Int)) (hk : k < 8) (hp' : bits .and .i64 P 255 = (p : Int)) (hp : p < 256) (hq' : bits .and .i64 Q 65535 = (q : Int)) (hq : q < 65536) (hb : base ≤ 1099511627520) (hv : v.size ≤ 4096) :
    Calls Tryz.prog 7 #[.agg #[.int .i64 C, .int .i64 K, .int .i64 P, .int .i64 Q, .string v], .int .i64 base] w fun e w' => e = .returned (.tuple #[.string (Bt.str (made base c k p q v).l), .bool true]) ∧ Below w.heap.size w w' := by
  have HC := Lib.hid hc
  have HV := Lib.hid hv
  have HBB := Lib.hid hb
  have HK := Lib.hid hk
  have HPQ := Lib.hid (And.intro hp hq)
  clear hc hv hb hk hp hq
  obtain ⟨n, hn⟩ : ∃ n : Nat, n = 1 + c := ⟨_, rfl⟩
  have hcn : (1 : Int) + (c : Int) = (n : Int) := by omega
  have hn8 : n ≤ 8 := by have := HC.out; omega
  have hnw : IntKind.i64.wrap (n : Int) = (n : Int) := IntWalk.i64_in _ (by omega)
  have HN := Lib.hid hn
  clear hn
  obtain ⟨g, hg⟩ : ∃ g : Bool, g = decide (k = 7) := ⟨_, rfl⟩
  have hkg : ((k : Int) == 7) = g := by rw [hg]; by_cases e : k = 7 <;> simp [e]; omega
  have HG := Lib.hid hg
  clear hg
  go_enter Tryz.func7, Tryz.ntmps7
  go_wp2_with fail
  go_loopw [8] (fun i wr => MadeRel w C K P Q v base k p q n g i wr) (fun i _ => n - (intOf i).toNat)
  case atStart =>
    refine ⟨0, .slice none 0 0, rfl, by omega, ?_, ?_, Recs.nil _ _, ?_, ?_⟩
    · show ((w.heap.push _).push _)[w.heap.size]? = _
      rw [Array.getElem?_push, if_neg (by simp)]
      exact heap_alloc_last _ _
    · have hz : (w.alloc (.cells #[.int .i64 C, .int .i64 K, .int .i64 P, .int .i64 Q, .string v] 30)).heap.size = w.heap.size + 1 := by show (w.heap.push _).size = _; simp
      rw [← hz]; exact heap_alloc_last _ _
    · exact ((Below.refl _ _).alloc (Nat.le_refl _) _).alloc (le_alloc (Nat.le_refl _) _) _
    · show _ ≤ ((w.heap.push _).push _).size; simp
  case round =>
    obtain ⟨j, rv, rfl, hj, h1, h2, hrec, hbw, hsz⟩ := hrel
    have H1 := Lib.hid h1
    have H2 := Lib.hid h2
    have HRC := Lib.hid hrec
    have HW := Lib.hid hbw
    have HSZ := Lib.hid hsz
    clear h1 h2 hrec hbw hsz
    obtain ⟨r0, r1, r2, r3, r4⟩ := cells5 H1.out
    obtain ⟨b0, b1, b2, b3, b4, b5⟩ := cells6 H2.out
    by_cases hlt : j < n
    · have hlt' : (j : Int) < (n : Int) := by omega
      have hk8 := HK.out
      have hb8 := HBB.out
      obtain ⟨x, hx⟩ : ∃ x : Nat, x = (k + j * 3) % 5 := ⟨_, rfl⟩
      have hx5 : x < 5 := by omega
      have hxm : ((k : Int) + (j : Int) * 3).tmod 5 = (x : Int) := by
        rw [Int.tmod_eq_emod_of_nonneg (by omega)]; omega
      obtain ⟨y, hy⟩ : ∃ y : Nat, y = 97 + x := ⟨_, rfl⟩
      have hxy : (97 : Int) + (x : Int) = (y : Int) := by omega
      have hy2 : y < 102 := by omega
      have hyw : IntKind.i64.wrap (y : Int) = (y : Int) := IntWalk.i64_in _ (by omega)
      have hyu : IntKind.u8.wrap (y : Int) = (y : Int) := IntWalk.u8_in _ (by omega)
      have kc := one_str (wr.alloc (.cells #[.int .u8 (y : Int)] 5)) wr.heap.size y (by omega) (heap_alloc_last wr _)
      have HY := Lib.hid hy
      have HX := Lib.hid hx
      clear hy hx
      have HRC6 := Lib.hid (World.ownsRow.alloc (World.ownsRow.alloc HRC.out (.cells #[.int .u8 (y : Int)] 5)) (.cells #[.int .i64 ((base : Int) + j), .string { data := #[UInt8.ofNat y] }, .string v, .bool g] 62))
      obtain ⟨s0, s1, s2, s3, s4⟩ := cells5 (Rc.alloc_old (.cells #[.int .u8 (y : Int)] 5) H1.out)
      have hown := World.ownsRow.lt HRC.out
      have hla := heap_alloc_last (wr.alloc (.cells #[.int .u8 (y : Int)] 5)) (.cells #[.int .i64 ((base : Int) + j), .string { data := #[UInt8.ofNat y] }, .string v, .bool g] 62)
      rw [show (wr.alloc (.cells #[.int .u8 (y : Int)] 5)).heap.size = wr.heap.size + 1 from by show (wr.heap.push _).size = _; simp] at hla
      have HLA := Lib.hid hla
      clear hla
      go_wp2_with (at_builtin; go_loud (refine wpList_append_rec rfl _ _ rfl (w.heap.size + 2) rv (mrecs base k v g j) rfl HRC6.out (wr.heap.size + 1) ⟨(base : Int) + j, { data := #[UInt8.ofNat y] }, v, g⟩ rfl HLA.out (by rw [mrecs_length]; omega) (le_alloc (le_alloc HSZ.out _) _) ?_; intro v' w7 hB7 hg7 hv7; have hh1 := (hg7.block w.heap.size (Vd.lt_of_heap (Rc.alloc_old _ (Rc.alloc_old _ H1.out))) (fun e => by have := (hown _ e.symm).1; omega)).trans (Rc.alloc_old _ (Rc.alloc_old _ H1.out)); have hh2 := (hg7.block (w.heap.size + 1) (Vd.lt_of_heap (Rc.alloc_old _ (Rc.alloc_old _ H2.out))) (fun e => by have := (hown _ e.symm).1; omega)).trans (Rc.alloc_old _ (Rc.alloc_old _ H2.out)); have hfz := Lib.frozen_of_heap hh2 5; obtain ⟨_, _, _, _, _, hc5⟩ := cells6 hh2; obtain ⟨ap', cap', rfl⟩ := hB7.form; have HH1 := Lib.hid hh1; have HH2 := Lib.hid hh2; have HB7 := Lib.hid hB7; have HG7 := Lib.hid hg7; have HV7 := Lib.hid hv7; clear hh1 hh2 hB7 hg7 hv7))
      go_roundw
      case rel =>
        have hme : mrec base k v g j = ⟨(base : Int) + j, { data := #[UInt8.ofNat y] }, v, g⟩ := by
          unfold mrec
          rw [HY.out, HX.out, Int.natCast_add]
        have hB := HB7.out
        rw [← hme, ← mrecs_snoc] at hB
        have hown7 := World.ownsRow.lt hB
        have e : (mrecs base k v g j).length + 1 = (mrecs base k v g (j + 1)).length := by rw [mrecs_length, mrecs_length]
        rw [e]
        refine ⟨j + 1, _, rfl, by omega, (Rc.set_other _ _ _ _ (by show _ ≠ w.heap.size + 1; omega)).trans HH1.out, (Rc.set_cells _ HH2.out).trans rfl, hB.same fun k' hk' => Rc.set_other _ _ _ _ (by have := (hown7 k' hk').1; show _ ≠ w.heap.size + 1; omega), ?_, ?_⟩
        · have hz := HSZ.out
          exact (((HW.out.alloc (by omega) _).alloc (le_alloc (by omega) _) _).grown HG7.out (le_alloc (le_alloc (by omega) _) _) (fun k' hk' => by have := (hown k' hk').1; omega)).setCell (p := ⟨w.heap.size + 1, 5, none⟩) (by show _ ≤ w.heap.size + 1; omega) _
        · show _ ≤ (w7.heap.modify _ _).size
          rw [Array.size_modify]
          exact Nat.le_trans (le_alloc (le_alloc HSZ.out _) _) HG7.out.size
      case measure => simp [intOf]; omega
    · obtain rfl : j = n := by omega
      have hlt' : ¬ (j : Int) < (j : Int) := by omega
      clear hlt
      have hj0 : 0 < j := by have := HN.out; omega
      obtain ⟨gb, cap, rfl, hgb, hgl⟩ := World.ownsRow.form HRC.out (by rw [mrecs_length]; exact hj0)
      rw [mrecs_length] at b5
      cases g with
      | false =>
        have hk7 : ¬ k = 7 := of_decide_eq_false HG.out.symm
        go_wp2_with fail
        obtain ⟨ap', cap', hv1, _, hat⟩ := HRC.out.at
        rw [mrecs_length] at hv1
        cases hv1
        obtain ⟨q1, q2, q3⟩ := made_parts base c k p q j v v false HN.out (if_neg hk7) HG.out HC.out HPQ.out.1 HPQ.out.2 HBB.out HV.out
        have hr := rplain base j 0 p q (some ⟨gb, 0, none⟩) cap _ wr hat (by rw [mrecs_length]; omega) (Bt.str (made base c k p q v).l) 0 (.inr (.inr ⟨q1, q2, q3, rfl⟩))
        clear q1 q2 q3
        rw [mrecs_length] at hr
        refine hr.mono ?_
        rintro e w8 ⟨rfl, hb8⟩
        go_wp2
        go_ret2
        exact ⟨rfl, HW.out.trans (hb8.mono HW.out.size)⟩
      | true =>
        have HK7 := Lib.hid (show k = 7 from of_decide_eq_true HG.out.symm)
        go_wp2_with fail
        go_loopw [9] (fun i wr => ∃ (i' : Nat) (rs : List Rec), i = .int .i64 i' ∧ i' ≤ j ∧ Mix base k v j i' rs ∧
          wr.heap[w.heap.size + 1]? = some (.cells #[.int .i64 base, .int .i64 j, .int .i64 0, .int .i64 p, .int .i64 q, .slice (some ⟨gb, 0, none⟩) j cap] 59 (0, 0)) ∧
          Recs wr (w.heap.size + 2) (.slice (some ⟨gb, 0, none⟩) j cap) rs ∧ Below w.heap.size w wr) (fun i _ => j - (intOf i).toNat)
        case atStart =>
          have h2 := H2.out
          have h3 := HRC.out
          rw [mrecs_length] at h2 h3
          exact ⟨0, _, rfl, by omega, Mix.start base k v j, h2, h3, HW.out⟩
        case round =>
          obtain ⟨i', rs, rfl, hi', hmix, h2', hrec', hbw'⟩ := hrel
          have HM := Lib.hid hmix
          have H2' := Lib.hid h2'
          have HR' := Lib.hid hrec'
          have HW' := Lib.hid hbw'
          clear hmix h2' hrec' hbw'
          obtain ⟨b0, b1, b2, b3, b4, b5⟩ := cells6 H2'.out
          by_cases hlt : i' < j
          · have hlt' : (i' : Int) < (j : Int) := by omega
            have hi0 : (0 : Int) ≤ (i' : Int) := by omega
            have hln := HM.out.1
            have hrl : i' < rs.length := by omega
            have hor := HR'.out
            have hr4 : i' * 4 + 2 < rs.length * 4 := by omega
            have hc2 : wr.cell? ⟨gb, i' * 4 + 2, none⟩ = some (.string rs[i'].v) := by
              have := World.ownsRow.cellAt (g := gb) (n := rs.length) (cap := cap) (by rw [← hln] at hor; exact hor) (i' * 4 + 2) hr4
              rw [this, cells_get rs i' 2 hrl (by decide)]
              rfl
            have hfz := World.ownsRow.frozenAt (g := gb) (n := rs.length) (cap := cap) (by rw [← hln] at hor; exact hor) (i' * 4 + 2)
            clear hor
            go_wp2_with fail
            go_roundw
            case rel =>
              have hor := HR'.out
              rw [← hln] at hor
              have hst := (World.ownsRow.stored hor (i' * 4 + 2) (.string ⟨#[]⟩)).1
              rw [cells_set rs i' ⟨#[]⟩ hrl, hln] at hst
              refine ⟨i' + 1, _, rfl, by omega, HM.out.next hrl, (Rc.set_other _ _ _ _ (by show _ ≠ gb; omega)).trans H2'.out, ?_, HW'.out.setCell (p := ⟨gb, i' * 4 + 2, none⟩) (by show _ ≤ gb; omega) _⟩
              unfold Recs
              rw [List.length_set, hln]
              exact hst
            case measure => simp [intOf]; omega
          · obtain rfl : i' = j := by omega
            have hlt' : ¬ (i' : Int) < (i' : Int) := by omega
            clear hlt
            obtain rfl := HM.out.done
            go_wp2_with fail
            obtain ⟨ap', cap', hv1, _, hat⟩ := HR'.out.at
            rw [mrecs_length] at hv1
            cases hv1
            obtain ⟨q1, q2, q3⟩ := made_parts base c k p q i' v ⟨#[]⟩ true HN.out (if_pos HK7.out) HG.out HC.out HPQ.out.1 HPQ.out.2 HBB.out HV.out
            have hr := rplain base i' 0 p q (some ⟨gb, 0, none⟩) cap _ wr hat (by rw [mrecs_length]; omega) (Bt.str (made base c k p q v).l) 0 (.inr (.inr ⟨q1, q2, q3, rfl⟩))
            clear q1 q2 q3
            rw [mrecs_length] at hr
            refine hr.mono ?_
            rintro e w8 ⟨rfl, hb8⟩
            go_wp2
            go_ret2
            exact ⟨rfl, HW'.out.trans (hb8.mono HW'.out.size)⟩
theorem recs_small (base : Nat) (rs : List Rec) (n : Nat) (hr : rise base rs = true) (hl : rs.length = n) (hn : n ≤ 8) : (recsStr base rs).size ≤ 33600 := by
  unfold recsStr
  split
  · rw [Bt.str_size]
    have := allBytes_length base _ (may_of_rise _ _ hr) (by omega)
    rw [hl] at this
    omega
  · exact Nat.zero_le _
theorem made_len (base c k p q : Nat) (v : ByteArray) (hc : c < 8) (hb : base ≤ 1099511627520) (hv : v.size ≤ 4096) : (made base c k p q v).l.length ≤ 33639 := by
  rw [Bat.len]
  have hv' : (if k = 7 then (⟨#[]⟩ : ByteArray) else v).size ≤ 4096 := by
    split
    · exact Nat.zero_le _
    · exact hv
  have hg : decide (k = 7) = true → (if k = 7 then (⟨#[]⟩ : ByteArray) else v).size = 0 := by
    intro h
    rw [if_pos (of_decide_eq_true h)]
    rfl
  have hr := rise_mrecs base k _ _ hv' hg (1 + c) (by omega)
  have hl := mrecs_length base k (if k = 7 then (⟨#[]⟩ : ByteArray) else v) (decide (k = 7)) (1 + c)
  have h := recs_small base _ (1 + c) hr hl (by omega)
  exact Nat.add_le_add_left h 39
/-- a batch by a recipe -/
theorem made_any (w : World) (C K P Q : Int) (v : ByteArray) (base : Nat) (hb : base ≤ 1099511627520) (hv : v.size ≤ 4096) :
    ∃ x : Bat, x.Ok ∧ x.b = base ∧ 1 ≤ x.c ∧ x.c ≤ 8 ∧ x.l.length ≤ 33639 ∧ ∀ w : World, Calls Tryz.prog 7 #[.agg #[.int .i64 C, .int .i64 K, .int .i64 P, .int .i64 Q, .string v], .int .i64 base] w fun e w' => e = .returned (.tuple #[.string (Bt.str x.l), .bool true]) ∧ Below w.heap.size w w' := by
  obtain ⟨c, hc, hc'⟩ := mask_nat C 7 3 rfl (by decide)
  obtain ⟨k, hk, hk'⟩ := mask_nat K 7 3 rfl (by decide)
  obtain ⟨p, hp, hp'⟩ := mask_nat P 255 8 rfl (by decide)
  obtain ⟨q, hq, hq'⟩ := mask_nat Q 65535 16 (by decide) (by decide)
  have hc : c < 8 := by simpa using hc
  have hk : k < 8 := by simpa using hk
  have hp : p < 256 := by simpa using hp
  have hq : q < 65536 := by simpa using hq
  exact ⟨made base c k p q v, made_ok base c k p q v hc hp hq hb hv, rfl, by show 1 ≤ 1 + c; omega, by show 1 + c ≤ 8; omega, made_len base c k p q v hc hb hv, fun w => made_walk w C K P Q v base c k p q hc' hc hk' hk hp' hp hq' hq hb hv⟩
end Go.Proofs.YtcioejacijkbcaaGreatDoor.Sg
/- the segment law: a segment of its own; awake. -/
namespace Go.Proofs.YtcioejacijkbcaaGreatDoor.Sg
open Go.RowKit Go.Maps Go.ChangeMaps Go.WideMaps Go.Proofs.YtcioejacijkbcaaGreatDoor.Vd Go.Proofs.YtcioejacijkbcaaGreatDoor.Rc Go.Proofs.YtcioejacijkbcaaGreatDoor.Ba
set_option linter.unusedVariables false
/-- a segment and a disk that were made behind w0 -/
structure SegOwn (w0 w : World) (bs bd bm room : Nat) (name : ByteArray) (base : Nat) (fs : List Fil) (xs : List Bat) (mv : Value) : Prop where
  at' : SegAt w bs bd bm room name base fs xs mv
  below : Below w0.heap.size w0 w
  bs : w0.heap.size ≤ bs
  disk : ∀ k, DiskB bd bm fs k → w0.heap.size ≤ k
  mv : ∀ k, mv.ownBlock = some k → w0.heap.size ≤ k
theorem SegOwn.more {w0 w w' : World} {bs bd bm room : Nat} {name : ByteArray} {base : Nat} {fs : List Fil} {xs : List Bat} {mv : Value} (h : SegOwn w0 w bs bd bm room name base fs xs mv) (hb : Below w.heap.size w w') : SegOwn w0 w' bs bd bm room name base fs xs mv :=
  ⟨h.at'.below hb, h.below.trans (hb.mono h.below.size), h.bs, h.disk, h.mv⟩
theorem own_append {w0 w : World} {bs bd bm room : Nat} {name : ByteArray} {base : Nat} {fs : List Fil} {xs : List Bat} {mv : Value} (h : SegOwn w0 w bs bd bm room name base fs xs mv) (x : Bat) (hx : x.Ok) (hb : x.b = endOf base xs) (hr : (text xs).length + x.l.length ≤ room) :
    Calls Tryz.prog 26 #[.pointer (some ⟨bs, 0, none⟩), .string (Bt.str x.l)] w fun e w' => e = .returned (.int .i64 0) ∧ ∃ fs' mv', SegOwn w0 w' bs bd bm room name base fs' (xs ++ [x]) mv' := by
  refine (seg_append h.at' x hx hb (Bt.str x.l) (Bt.str_data _) (by rw [Bt.str_size]; exact hr)).mono ?_
  rintro e w' ⟨rfl, fs', mv', hS, hT, hN⟩
  have hF : ∀ k, (k = bs ∨ mv.ownBlock = some k ∨ DiskB bd bm fs k) → w0.heap.size ≤ k := by
    rintro k (rfl | hk | hk)
    · exact h.bs
    · exact h.mv k hk
    · exact h.disk k hk
  refine ⟨rfl, fs', mv', hS, h.below.trans (hT.below h.below.size hF), h.bs, ?_, ?_⟩
  · intro k hk
    rcases hN k (.inl hk) with h1 | h1 | h1
    · exact h.disk k h1
    · exact h.mv k h1
    · exact Nat.le_trans h.below.size h1
  · intro k hk
    rcases hN k (.inr hk) with h1 | h1 | h1
    · exact h.disk k h1
    · exact h.mv k h1
    · exact Nat.le_trans h.below.size h1
/-- a batch that has an offset -/
theorem own_batch {w0 w : World} {bs bd bm room : Nat} {name : ByteArray} {base : Nat} {fs : List Fil} {xs : List Bat} {mv : Value} (h : SegOwn w0 w bs bd bm room name base fs xs mv) (o : Nat) (h0 : base ≤ o) (h1 : o < endOf base xs) :
    Calls Tryz.prog 42 #[.pointer (some ⟨bs, 0, none⟩), .int .i64 o] w fun e w' => BatchPost xs base o e ∧ Below w.heap.size w w' := by
  rcases h.at'.file with ⟨_, rfl⟩ | ⟨f, rfl, hn, hf⟩
  · exfalso; simp [endOf] at h1; omega
  · subst hn
    exact batch_in xs h.at'.chain f (by simp) hf h.at'.disk h.at'.seg o h0 h1
theorem batch_one {x : Bat} {base o : Nat} {e : Ending} (h : BatchPost [x] base o e) : e = .returned (.tuple #[.string (Bt.str x.l), .int .i64 0]) := by
  obtain ⟨k, hk, _, _, he⟩ := h
  obtain rfl : k = 0 := by simpa using hk
  exact he
theorem b27 : bits .and .i64 2 7 = ((2 : Nat) : Int) := rfl
theorem b07 : bits .and .i64 0 7 = ((0 : Nat) : Int) := rfl
theorem b0255 : bits .and .i64 0 255 = ((0 : Nat) : Int) := rfl
theorem b0w : bits .and .i64 0 65535 = ((0 : Nat) : Int) := rfl
end Go.Proofs.YtcioejacijkbcaaGreatDoor.Sg
