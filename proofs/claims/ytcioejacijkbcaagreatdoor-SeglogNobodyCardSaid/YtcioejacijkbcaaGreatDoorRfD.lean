/- The references' Bytes of records. -/
import Derived.Test.YtcioejacijkbcaaGreatDoorRfC
import Derived.Lib.AppendStr
import Derived.Deep.Cut
namespace Go.Proofs.YtcioejacijkbcaaGreatDoor.Rf
open Go.RowKit Go.Maps Go.ChangeMaps Go.WideMaps Go.Proofs.YtcioejacijkbcaaGreatDoor.Su Go.Proofs.YtcioejacijkbcaaGreatDoor.Bt Go.Proofs.YtcioejacijkbcaaGreatDoor.Rc Go.Proofs.YtcioejacijkbcaaGreatDoor.Ba
set_option linter.unusedVariables false
/-- bytes that grow beside a record's box -/
structure Out (w W : World) (C : Nat) (r : Rec) (v : Value) (l : List UInt8) : Prop where
  out : Bytes W w.heap.size v l
  cell : W.heap[C]? = some (.cells #[.int .i64 r.o, .string r.k, .string r.v, .bool r.g] 62 (0, 0))
  below : Below w.heap.size w W
theorem Out.ne {w W : World} {C : Nat} {r : Rec} {v : Value} {l : List UInt8} (h : Out w W C r v l) : ∀ k, v.ownBlock = some k → k ≠ C := by
  intro k hk e
  subst e
  rcases h.out.2 with ⟨rfl, _⟩ | ⟨g, cap, cur, rfl, _, hg, _⟩
  · cases hk
  · simp only [Value.ownBlock, Option.some.injEq] at hk
    rw [hk, h.cell] at hg
    simp only [Option.some.injEq, Obj.cells.injEq] at hg
    exact absurd hg.2.1 (by decide)
theorem Out.grow {w W W' : World} {C : Nat} {r : Rec} {v : Value} {l : List UInt8} (h : Out w W C r v l) (hb : Below W.heap.size W W') : Out w W' C r v l :=
  ⟨h.out.at (fun k hk => hb.block k (h.out.lt k hk).2), (hb.block _ (lt_of_heap h.cell)).trans h.cell, h.below.trans (hb.mono h.below.size)⟩
theorem Out.put {w W W' : World} {C : Nat} {r : Rec} {v v' : Value} {l l' : List UInt8} (h : Out w W C r v l) (hB : Bytes W' w.heap.size v' l') (hg : W.grownBy W' v.ownBlock) : Out w W' C r v' l' :=
  ⟨hB, (hg.block _ (lt_of_heap h.cell) (fun e => h.ne C e.symm rfl)).trans h.cell, h.below.grown hg h.below.size (fun k hk => (h.out.lt k hk).1)⟩
theorem wpList_append_bytes {w : World} {ops : Array Oper} {rest : List Oper} {o : Oper} {a : Act} {Q : Exit → Act → World → Prop} (hgd : o.guard = none) (sl x : Operand)
    (ho : o.op = .call { callee := .builtin .append, args := #[sl, x], argTypes := #[60, 9] })
    (base : Nat) (v : Value) (l : List UInt8) (hs : a.eval sl = v) (hown : Bytes w base v l) (s : ByteArray) (hx : a.eval x = .string s) (hsz : l.length + s.size ≤ 140737488351232) (hbase : base ≤ w.heap.size)
    (h : ∀ v' w', Bytes w' base v' (l ++ s.data.toList) → w.grownBy w' v.ownBlock → wpList Tryz.prog ops Q rest (a.put o.dst v') w') : wpList Tryz.prog ops Q (o :: rest) a w := by
  obtain ⟨i0, hi, hz0, hz1, hz2⟩ := info_parts info8
  refine Lib.wpList_append_own_string _ hgd sl x 60 9 ho base 5 i0 Tryz.underlying60 Tryz.underlying9 hi hz0 hz1 hz2 v l.length (l.map bv) hs hown s hx (by unfold maxLen; omega) (by omega) hbase ?_
  intro v' w' h1 h2 _
  refine h v' w' ?_ h2
  have e : Lib.strCells s = s.data.toList.map bv := by unfold Lib.strCells bv; simp
  unfold Bytes
  rw [List.map_append, List.length_append, ← e, ← size_data]
  exact h1
theorem all_next (base : Int) (rs : List Rec) (i : Nat) (h : i < rs.length) : allBytes base (rs.take (i + 1)) = allBytes base (rs.take i) ++ recBytes base rs[i] := by
  rw [List.take_succ_eq_append_getElem h, allBytes_snoc]
theorem rec_split (base : Int) (r : Rec) : recBytes base r = vnum (r.o - base).toNat ++ vnum r.k.size ++ r.k.data.toList ++ (if r.g = true then [0] else vnum (r.v.size + 1) ++ r.v.data.toList) := by
  unfold recBytes
  rw [show vnum 0 = [0] from by rw [vnum_small 0 (by decide)]; rfl]
theorem recs_in (rs : List Rec) (base : Int) (h : rise base rs = true) : ∀ r ∈ rs, base ≤ r.o := by
  induction rs generalizing base with
  | nil => intro r hr; cases hr
  | cons x rs ih =>
    simp only [rise, Bool.and_eq_true, decide_eq_true_eq] at h
    intro r hr
    rcases List.mem_cons.1 hr with rfl | hr
    · exact h.1.2
    · have := ih (x.o + 1) h.2 r hr; have := h.1.2; omega
set_option maxRecDepth 100000 in
set_option maxHeartbeats 4000000 in
theorem rbytes (rs : List Rec) (base : Int) (ap : Option Addr) (cap : Nat) (w : World) (h : RecsAt w ap rs) (hn : rs.length ≤ 1048576) :
    Calls Tryz.prog 52 #[.slice ap rs.length cap, .int .i64 base] w fun e w' => e = .returned (.tuple #[.string (recsStr base rs), .int .i64 (recsErr base rs)]) ∧ Below w.heap.size w w' := by
  obtain ⟨X, hX⟩ : ∃ X, X = recsStr base rs := ⟨_, rfl⟩
  obtain ⟨Y, hY⟩ : ∃ Y, Y = recsErr base rs := ⟨_, rfl⟩
  rw [← hX, ← hY]
  have HR := Lib.hid h
  clear h
  cases hok : okRecs base rs with
  | false =>
    have HX := Lib.hid (show X = ⟨#[]⟩ from by rw [hX]; unfold recsStr; rw [hok]; rfl)
    have HY := Lib.hid (show Y = 90 from by rw [hY]; unfold recsErr; rw [hok]; rfl)
    have HOK := Lib.hid hok
    clear hX hY hok
    go_enter Tryz.func52, Tryz.ntmps52
    go_wp2_with fail
    refine (rrise rs base ap cap w HR.out hn).mono ?_
    rintro e w1 ⟨rfl, hb1⟩
    rw [HOK.out]
    go_wp2
    go_ret2
    exact ⟨by rw [HX.out, HY.out]; rfl, hb1⟩
  | true =>
    have HX := Lib.hid (show X = str (allBytes base rs) from by rw [hX]; unfold recsStr; rw [hok]; rfl)
    have HY := Lib.hid (show Y = 0 from by rw [hY]; unfold recsErr; rw [hok]; rfl)
    have hok' := hok
    unfold okRecs at hok'
    simp only [Bool.and_eq_true, decide_eq_true_eq] at hok'
    obtain ⟨⟨hb0, hb1⟩, hris⟩ := hok'
    have HRI := Lib.hid hris
    have HOK := Lib.hid hok
    clear hX hY hok hris
    go_enter Tryz.func52, Tryz.ntmps52
    go_wp2_with fail
    refine (rrise rs base ap cap w HR.out hn).mono ?_
    rintro e w1 ⟨rfl, hbr⟩
    rw [HOK.out]
    go_wp2_with fail
    go_loopw [6, 7] (fun v x w' => ∃ i : Nat, i ≤ rs.length ∧ x = .int .i64 i ∧ Bytes w' w.heap.size v (allBytes base (rs.take i)) ∧ Below w.heap.size w w') (fun _ x _ => rs.length - (intOf x).toNat)
    case atStart => exact ⟨0, by omega, rfl, Bytes.nil _ _, hbr⟩
    case round =>
      obtain ⟨i, hi, rfl, hB, hbw⟩ := hrel
      have HB := Lib.hid hB
      have HW := Lib.hid hbw
      have HRS := Lib.hid (HR.out.below hbw)
      clear hB hbw
      by_cases hlt : i < rs.length
      · have hlt' : (i : Int) < (rs.length : Int) := by omega
        have hi0 : (0 : Int) ≤ (i : Int) := by omega
        obtain ⟨a, rfl, _, h0, h1, h2, h3⟩ := HRS.out i hlt
        have hal := all_next base rs i hlt
        have hin := recs_in rs base HRI.out rs[i] (List.getElem_mem _)
        have hmy := may_of_rise _ _ HRI.out rs[i] (List.getElem_mem _)
        have hle := allBytes_length base (rs.take i) (fun r hr => may_of_rise _ _ HRI.out r (List.mem_of_mem_take hr)) hb0
        rw [List.length_take_of_le hi] at hle
        generalize rs[i] = r at hal hin hmy h0 h1 h2 h3
        obtain ⟨o, kk, v, g⟩ := r
        simp only at h0 h1 h2 h3 hin
        rw [rec_split] at hal
        simp only at hal
        simp only [Rec.may, mayRec, Bool.and_eq_true, decide_eq_true_eq] at hmy
        obtain ⟨⟨⟨⟨m1, m2⟩, m3⟩, m4⟩, m5⟩ := hmy
        have l1 := vnum_length (o - base).toNat 5 (by show _ < 4398046511104; omega)
        have l2 := vnum_length kk.size 5 (by show _ < 4398046511104; omega)
        have l3 := vnum_length (v.size + 1) 5 (by show _ < 4398046511104; omega)
        have e1 : kk.data.toList.length = kk.size := by rw [Array.length_toList]; rfl
        have hz := lens (allBytes base (rs.take i)) (vnum (o - base).toNat) (vnum kk.size) kk.data.toList (vnum (v.size + 1)) kk.size v.size (Nat.le_trans hle (Nat.mul_le_mul_left _ (Nat.le_trans hi hn))) l1 l2 (Nat.le_of_eq e1) m3 l3 m4
        have HZ := Lib.hid hz
        have HAL := Lib.hid hal
        clear hz hal l1 l2 l3 e1 hle m5
        go_wp2_with fail
        have hs0 := HW.out.size
        have o0 : Out w (wr.alloc (.cells #[.int .i64 o, .string kk, .string v, .bool g] 62)) wr.heap.size ⟨o, kk, v, g⟩ u6 (allBytes base (rs.take i)) := ⟨HB.out.alloc _, heap_alloc_last _ _, HW.out.alloc hs0 _⟩
        have O0 := Lib.hid o0
        clear o0 h0 h1 h2 h3 hs0
        refine (number _ (o - base) (by omega) (by omega)).mono ?_
        rintro e w2 ⟨rfl, hb0⟩
        have P0 := Lib.hid (O0.out.grow hb0)
        clear hb0
        obtain ⟨c0, c1, c2, c3⟩ := cells4 P0.out.cell
        go_upto_region 9 with (at_builtin; refine wpList_append_bytes rfl _ _ rfl w.heap.size _ _ rfl P0.out.out (str (vnum (o - base).toNat)) rfl (by rw [str_size]; exact HZ.out.2.2.1) P0.out.below.size ?_; intro v0 w3 hB0 hg0; rw [str_data] at hB0; have O1 := Lib.hid (P0.out.put hB0 hg0); clear hB0 hg0 c0 c1 c2 c3; obtain ⟨c0, c1, c2, c3⟩ := cells4 O1.out.cell)
        go_wp2_with fail
        refine (number _ ((kk.size : Int)) (by omega) (by omega)).mono ?_
        rintro e w4 ⟨rfl, hb1⟩
        have P1 := Lib.hid (O1.out.grow hb1)
        clear hb1
        obtain ⟨c0, c1, c2, c3⟩ := cells4 P1.out.cell
        go_upto_region 10 with (at_builtin; refine wpList_append_bytes rfl _ _ rfl w.heap.size _ _ rfl P1.out.out (str (vnum (kk.size : Int).toNat)) rfl (by rw [str_size]; exact (by rw [Int.toNat_natCast]; exact HZ.out.2.2.2.1)) P1.out.below.size ?_; intro v1 w5 hB1 hg1; rw [str_data] at hB1; have O2 := Lib.hid (P1.out.put hB1 hg1); clear hB1 hg1 c0 c1 c2 c3; obtain ⟨c0, c1, c2, c3⟩ := cells4 O2.out.cell)
        go_upto_region 11 with (at_builtin; refine wpList_append_bytes rfl _ _ rfl w.heap.size _ _ rfl O2.out.out kk rfl (by rw [Int.toNat_natCast]; exact HZ.out.2.2.2.2.1) O2.out.below.size ?_; intro v2 w7 hB2 hg2; have O3 := Lib.hid (O2.out.put hB2 hg2); clear hB2 hg2 c0 c1 c2 c3; obtain ⟨c0, c1, c2, c3⟩ := cells4 O3.out.cell)
        cases g with
        | true =>
          have hcl : (w7.alloc (.cells #[.int .u8 0] 5)).cell? ⟨w7.heap.size, 0, none⟩ = some (bv 0) := (cell_of_row _ _ 0 _ _ _ (heap_alloc_last _ _)).trans rfl
          have HC := Lib.hid hcl
          have P9 := Lib.hid (O3.out.grow ((Below.refl _ _).alloc (Nat.le_refl _) (.cells #[.int .u8 0] 5)))
          clear hcl
          go_wp2_with (at_builtin; refine wpList_append_byte rfl _ _ rfl w.heap.size _ _ rfl P9.out.out _ 0 rfl HC.out (by have := HZ.out.2.2.2.2.2.1; rw [Int.toNat_natCast]; omega) P9.out.below.size ?_; intro v9 w9 hB9 hg9 hv9; have O9 := Lib.hid (P9.out.put hB9 hg9); clear hB9 hg9 hv9 c0 c1 c2 c3)
          go_roundw
          case rel =>
            refine ⟨i + 1, by omega, by go_num, ?_, O9.out.below⟩
            rw [HAL.out]
            have := O9.out.out
            simpa [List.append_assoc] using this
          case measure => simp [intOf]; omega
        | false =>
          go_wp2_with fail
          refine (number _ ((v.size : Int) + 1) (by omega) (by omega)).mono ?_
          rintro e w8 ⟨rfl, hb3⟩
          have P3 := Lib.hid (O3.out.grow hb3)
          clear hb3
          obtain ⟨c0, c1, c2, c3⟩ := cells4 P3.out.cell
          go_upto_region 14 with (at_builtin; refine wpList_append_bytes rfl _ _ rfl w.heap.size _ _ rfl P3.out.out (str (vnum ((v.size : Int) + 1).toNat)) rfl (by rw [str_size]; exact (by rw [Int.toNat_natCast]; exact HZ.out.2.2.2.2.2.2.1)) P3.out.below.size ?_; intro v3 w9 hB3 hg3; rw [str_data] at hB3; have O4 := Lib.hid (P3.out.put hB3 hg3); clear hB3 hg3 c0 c1 c2 c3; obtain ⟨c0, c1, c2, c3⟩ := cells4 O4.out.cell)
          go_wp2_with (at_builtin; refine wpList_append_bytes rfl _ _ rfl w.heap.size _ _ rfl O4.out.out v rfl (by rw [Int.toNat_natCast]; exact HZ.out.2.2.2.2.2.2.2) O4.out.below.size ?_; intro v4 w11 hB4 hg4; have O5 := Lib.hid (O4.out.put hB4 hg4); clear hB4 hg4 c0 c1 c2 c3; obtain ⟨c0, c1, c2, c3⟩ := cells4 O5.out.cell)
          go_roundw
          case rel =>
            refine ⟨i + 1, by omega, by go_num, ?_, O5.out.below⟩
            rw [HAL.out]
            have := O5.out.out
            rw [show ((v.size : Int) + 1).toNat = v.size + 1 from by omega] at this
            simpa [List.append_assoc] using this
          case measure => simp [intOf]; omega
      · obtain rfl : i = rs.length := by omega
        have hlt' : ¬ (rs.length : Int) < (rs.length : Int) := by omega
        have hcv := HB.out.conv
        rw [List.take_length] at hcv
        clear hlt
        go_wp2
        go_ret2
        exact ⟨by rw [HX.out, HY.out]; rfl, HW.out⟩
end Go.Proofs.YtcioejacijkbcaaGreatDoor.Rf
