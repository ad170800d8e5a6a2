/- record: Bytes. -/
import Derived.Test.YtcioejacijkbcaaGreatDoorRcA
import Derived.Deep.Slices
namespace Go.Proofs.YtcioejacijkbcaaGreatDoor.Rc
open Go.RowKit Go.Maps Go.ChangeMaps Go.WideMaps Go.Proofs.YtcioejacijkbcaaGreatDoor.Su Go.Proofs.YtcioejacijkbcaaGreatDoor.Bt Go.Proofs.YtcioejacijkbcaaGreatDoor.Sb
set_option linter.unusedVariables false
/-- a record -/
structure Rec where
  o : Int
  k : ByteArray
  v : ByteArray
  g : Bool
deriving Inhabited
def Rec.may (r : Rec) : Bool := mayRec r.o r.k r.v r.g
/-- records in memory -/
def RecsAt (w : World) (ap : Option Addr) (rs : List Rec) : Prop := ∀ i (h : i < rs.length), ∃ a, ap = some a ∧ a.block < w.heap.size ∧
  w.cell? (a.add (i * 4)) = some (.int .i64 rs[i].o) ∧ w.cell? ⟨(a.add (i * 4)).block, (a.add (i * 4)).off + 1, none⟩ = some (.string rs[i].k) ∧
  w.cell? ⟨(a.add (i * 4)).block, (a.add (i * 4)).off + 2, none⟩ = some (.string rs[i].v) ∧ w.cell? ⟨(a.add (i * 4)).block, (a.add (i * 4)).off + 3, none⟩ = some (.bool rs[i].g)
theorem add_block' (a : Addr) (n : Nat) : (a.add n).block = a.block := by unfold Addr.add; split <;> rfl
theorem RecsAt.same {w w' : World} {ap : Option Addr} {rs : List Rec} (h : RecsAt w ap rs) (hs : w.heap.size ≤ w'.heap.size) (hb : ∀ k, k < w.heap.size → w'.heap[k]? = w.heap[k]?) : RecsAt w' ap rs := by
  intro i hi
  obtain ⟨a, ha, hlt, h0, h1, h2, h3⟩ := h i hi
  have hc : ∀ x : Addr, x.block = a.block → w'.cell? x = w.cell? x := fun x hx => by unfold World.cell?; rw [hb _ (by rw [hx]; exact hlt)]
  exact ⟨a, ha, Nat.lt_of_lt_of_le hlt hs, (hc _ (add_block' a _)).trans h0, (hc ⟨(a.add (i * 4)).block, _, none⟩ (add_block' a _)).trans h1, (hc ⟨(a.add (i * 4)).block, _, none⟩ (add_block' a _)).trans h2, (hc ⟨(a.add (i * 4)).block, _, none⟩ (add_block' a _)).trans h3⟩
theorem RecsAt.below {w w' : World} {ap : Option Addr} {rs : List Rec} (h : RecsAt w ap rs) (hb : Below w.heap.size w w') : RecsAt w' ap rs := h.same hb.size (fun k hk => hb.block k hk)
/-- may records follow one another, from here on? -/
def rise : Int → List Rec → Bool
  | _, [] => true
  | n, r :: rs => r.may && decide (n ≤ r.o) && rise (r.o + 1) rs
/-- the offset that comes next -/
def nextOf : Int → List Rec → Int
  | n, [] => n
  | _, r :: rs => nextOf (r.o + 1) rs
theorem rise_snoc (n : Int) (rs : List Rec) (r : Rec) : rise n (rs ++ [r]) = (rise n rs && r.may && decide (nextOf n rs ≤ r.o)) := by
  induction rs generalizing n with
  | nil => simp [rise, nextOf]; rfl
  | cons x rs ih => simp [rise, nextOf, ih, Bool.and_assoc]; rfl
theorem nextOf_snoc (n : Int) (rs : List Rec) (r : Rec) : nextOf n (rs ++ [r]) = r.o + 1 := by
  induction rs generalizing n with
  | nil => rfl
  | cons x rs ih => simp [nextOf, ih]
theorem rise_take (n : Int) (rs : List Rec) (i : Nat) (h : rise n (rs.take i) = false) : rise n rs = false := by
  induction rs generalizing n i with
  | nil => simp [rise] at h
  | cons x rs ih =>
    cases i with
    | zero => simp [rise] at h
    | succ i =>
      simp only [List.take_succ_cons, rise] at h ⊢
      cases hx : (x.may && decide (n ≤ x.o)) with
      | false => simp
      | true => rw [hx, Bool.true_and] at h; rw [Bool.true_and]; exact ih _ _ h
theorem nextOf_le (n : Int) (rs : List Rec) (h : rise n rs = true) (h0 : 0 ≤ n) (hm : n ≤ 1099511627776) : 0 ≤ nextOf n rs ∧ n ≤ nextOf n rs ∧ nextOf n rs ≤ 1099511627776 := by
  induction rs generalizing n with
  | nil => exact ⟨h0, Int.le_refl _, hm⟩
  | cons x rs ih =>
    simp only [rise, Bool.and_eq_true, decide_eq_true_eq, Rec.may, mayRec] at h
    obtain ⟨⟨⟨⟨⟨⟨a1, a2⟩, a3⟩, a4⟩, a5⟩, a6⟩, a7⟩ := h
    have := ih (x.o + 1) a7 (by omega) (by omega)
    simp only [nextOf]; omega
/-- a record's bytes -/
def recBytes (base : Int) (r : Rec) : List UInt8 :=
  vnum (r.o - base).toNat ++ vnum r.k.size ++ r.k.data.toList ++ (if r.g = true then vnum 0 else vnum (r.v.size + 1) ++ r.v.data.toList)
def allBytes (base : Int) (rs : List Rec) : List UInt8 := rs.flatMap (recBytes base)
theorem vnum_length (n m : Nat) (h : n < 128 ^ (m + 1)) : (vnum n).length ≤ m + 1 := by
  induction m generalizing n with
  | zero => rw [vnum_small n (by omega)]; simp
  | succ m ih =>
    by_cases hn : n < 128
    · rw [vnum_small n hn]; simp
    · rw [vnum_big n hn]
      have := ih (n / 128) (by rw [Nat.pow_succ] at h; exact Nat.div_lt_of_lt_mul (by rw [Nat.mul_comm]; exact h))
      simp only [List.length_cons]; omega
theorem recBytes_length (base : Int) (r : Rec) (h : r.may = true) (hb : 0 ≤ base) : (recBytes base r).length ≤ 4200 := by
  simp only [Rec.may, mayRec, Bool.and_eq_true, decide_eq_true_eq] at h
  obtain ⟨⟨⟨⟨a1, a2⟩, a3⟩, a4⟩, a5⟩ := h
  have h1 := vnum_length (r.o - base).toNat 5 (by show _ < 4398046511104; omega)
  have h2 := vnum_length r.k.size 5 (by show _ < 4398046511104; omega)
  have h3 := vnum_length (r.v.size + 1) 5 (by show _ < 4398046511104; omega)
  have h4 := vnum_length 0 5 (by decide)
  have e1 : r.k.data.toList.length = r.k.size := by rw [Array.length_toList]; rfl
  have e2 : r.v.data.toList.length = r.v.size := by rw [Array.length_toList]; rfl
  simp only [recBytes, List.length_append]
  split
  · omega
  · simp only [List.length_append]; omega
theorem allBytes_snoc (base : Int) (rs : List Rec) (r : Rec) : allBytes base (rs ++ [r]) = allBytes base rs ++ recBytes base r := by simp [allBytes]
theorem may_of_rise (n : Int) (rs : List Rec) (h : rise n rs = true) : ∀ r ∈ rs, r.may = true := by
  induction rs generalizing n with
  | nil => intro r hr; cases hr
  | cons x rs ih =>
    simp only [rise, Bool.and_eq_true] at h
    intro r hr
    rcases List.mem_cons.1 hr with rfl | hr
    · exact h.1.1
    · exact ih _ h.2 r hr
theorem allBytes_length (base : Int) (rs : List Rec) (h : ∀ r ∈ rs, r.may = true) (hb : 0 ≤ base) : (allBytes base rs).length ≤ 4200 * rs.length := by
  induction rs with
  | nil => simp [allBytes]
  | cons x rs ih =>
    have h1 := recBytes_length base x (h x (by simp)) hb
    have h2 := ih (fun r hr => h r (by simp [hr]))
    simp only [allBytes, List.flatMap_cons, List.length_append, List.length_cons] at h2 ⊢
    omega
theorem number' (B b : Nat) (l : List UInt8) (N : Int) (n : Nat) (hN : N = n) (hn : n ≤ 1099511627776) (w : World) (h : Bld w B b l) (hlen : l.length + (vnum n).length ≤ 140737488351232) (hBw : B ≤ w.heap.size) :
    Calls Tryz.prog 195 #[.pointer (some ⟨b, 0, none⟩), .int .i64 N] w fun e w' => e = .returned (.tuple #[]) ∧ Bld w' B b (l ++ vnum n) ∧ Below B w w' ∧ Kept b w w' := by
  rw [hN]; exact number B b l n (Nat.lt_of_le_of_lt hn (by decide)) w h hlen hBw
theorem vnum0 : (vnum 0).length = 1 := by rw [vnum_small 0 (by decide)]; rfl
theorem lens (l a b c d : List UInt8) (K V : Nat) (h1 : l.length ≤ 4200 * 1048576) (h2 : a.length ≤ 5 + 1) (h3 : b.length ≤ 5 + 1) (h4 : c.length ≤ K) (hK : K ≤ 64) (h5 : d.length ≤ 5 + 1) (hV : V ≤ 4096) :
    K ≤ 1099511627776 ∧ V + 1 ≤ 1099511627776 ∧ l.length + a.length ≤ 140737488351232 ∧ (l ++ a).length + b.length ≤ 140737488351232 ∧ (l ++ a ++ b).length + K ≤ 140737488351232 ∧ (l ++ a ++ b ++ c).length + (vnum 0).length ≤ 140737488351232 ∧ (l ++ a ++ b ++ c).length + d.length ≤ 140737488351232 ∧ (l ++ a ++ b ++ c ++ d).length + V ≤ 140737488351232 := by
  rw [vnum0]
  simp only [List.length_append]
  generalize l.length = x1 at *
  generalize a.length = x2 at *
  generalize b.length = x3 at *
  generalize c.length = x4 at *
  generalize d.length = x5 at *
  omega
theorem cells4 {w : World} {b : Nat} {x0 x1 x2 x3 : Value} {t : TypeId} (h : w.heap[b]? = some (.cells #[x0, x1, x2, x3] t (0, 0))) :
    w.cell? ⟨b, 0, none⟩ = some x0 ∧ w.cell? ⟨b, 1, none⟩ = some x1 ∧ w.cell? ⟨b, 2, none⟩ = some x2 ∧ w.cell? ⟨b, 3, none⟩ = some x3 := by
  refine ⟨?_, ?_, ?_, ?_⟩ <;> (rw [cell_of_row _ _ _ _ _ _ h]; rfl)
set_option maxRecDepth 100000 in
set_option maxHeartbeats 4000000 in
theorem bytes_any (w : World) (ap : Option Addr) (cap : Nat) (rs : List Rec) (base : Int) (h : RecsAt w ap rs) (hn : rs.length ≤ 1048576) (hb0 : 0 ≤ base) (hb1 : base < 1099511627776)
    (s : ByteArray) (er : Int) (hr : (rise base rs = true ∧ s = str (allBytes base rs) ∧ er = 0) ∨ (rise base rs = false ∧ s = ⟨#[]⟩ ∧ er = 90)) :
    Calls Tryz.prog 139 #[.slice ap rs.length cap, .int .i64 base] w fun e w' => e = .returned (.tuple #[.string s, .int .i64 er]) ∧ Below w.heap.size w w' := by
  have HR := Lib.hid h
  have HRI := Lib.hid hr
  clear h hr
  go_enter Tryz.func139, Tryz.ntmps139
  go_wp2_with fail
  go_loopw [7, 19] (fun nx i w' => ∃ k : Nat, k ≤ rs.length ∧ i = .int .i64 k ∧ nx = .int .i64 (nextOf base (rs.take k)) ∧ rise base (rs.take k) = true ∧ Bld w' w.heap.size w.heap.size (allBytes base (rs.take k)) ∧ Below w.heap.size w w') (fun _ i _ => rs.length - (intOf i).toNat)
  case atStart => exact ⟨0, by omega, rfl, rfl, rfl, Lib.fresh_isBuilder _ _ _, (Below.refl _ _).alloc (Nat.le_refl _) _⟩
  case round =>
    obtain ⟨k, hk, rfl, rfl, hris, hbld, hbw⟩ := hrel
    have HRS := Lib.hid hris
    have HB := Lib.hid hbld
    have HW := Lib.hid hbw
    clear hris hbld hbw
    by_cases hlt : k < rs.length
    · obtain ⟨a, rfl, halt, h0, h1, h2, h3⟩ := (HR.out.below HW.out) k hlt
      have hi0 : (0 : Int) ≤ (k : Int) := by omega
      have hi1 : (k : Int) < (rs.length : Int) := by omega
      generalize hrk : rs[k] = r at h0 h1 h2 h3
      obtain ⟨o, kk, v, g⟩ := r
      simp only at h0 h1 h2 h3
      have HRK := Lib.hid hrk
      clear hrk
      have hrt : rs.take (k + 1) = rs.take k ++ [⟨o, kk, v, g⟩] := by rw [List.take_succ_eq_append_getElem hlt, HRK.out]
      have hsn := rise_snoc base (rs.take k) ⟨o, kk, v, g⟩
      have hnx := nextOf_snoc base (rs.take k) ⟨o, kk, v, g⟩
      have hal := allBytes_snoc base (rs.take k) ⟨o, kk, v, g⟩
      have hle := allBytes_length base (rs.take k) (may_of_rise _ _ HRS.out) hb0
      have hnl := nextOf_le base (rs.take k) HRS.out hb0 (by omega)
      rw [← hrt, HRS.out, Bool.true_and] at hsn
      rw [← hrt] at hnx hal
      rw [List.length_take_of_le hk] at hle
      have HSN := Lib.hid hsn
      have HNX := Lib.hid hnx
      have HAL := Lib.hid hal
      have HLE := Lib.hid hle
      clear hrt hsn hnx hal hle
      generalize nextOf base (rs.take k) = nx at HSN hnl
      obtain ⟨hnl0, hnl1, hnl2⟩ := hnl
      have hwr := HW.out.size
      have HWR := Lib.hid hwr
      clear hwr
      go_wp2_with fail
      refine (check _ _ _ _ _).mono ?_
      rintro e w1 ⟨rfl, hb1c⟩
      have hblk : w1.heap[wr.heap.size]? = some (.cells #[.int .i64 o, .string kk, .string v, .bool g] 62 (0, 0)) := (hb1c.block _ (by show _ < (wr.heap.push _).size; simp)).trans (heap_alloc_last _ _)
      have hB1 := Lib.hid (Bld_below (HB.out |> fun h => Bld_below h ((Below.refl wr.heap.size wr).alloc (Nat.le_refl _) _)) hb1c)
      have HW1 := Lib.hid ((HW.out.alloc HWR.out (.cells #[.int .i64 o, .string kk, .string v, .bool g] 62)).trans (hb1c.mono (le_alloc HWR.out _)))
      have HBLK := Lib.hid hblk
      obtain ⟨c0, c1, c2, c3⟩ := cells4 hblk
      clear hblk hb1c h0 h1 h2 h3
      cases hmay : mayRec o kk v g with
      | false =>
        rw [chk_no rfl]
        rcases HRI.out with ⟨q1, _, _⟩ | ⟨q1, rfl, rfl⟩
        · have := rise_take base rs (k + 1) (by rw [HSN.out]; simp only [Rec.may, hmay, Bool.false_and])
          rw [this] at q1; cases q1
        · go_wp2_with fail
          go_ret2
          exact ⟨rfl, HW1.out⟩
      | true =>
        rw [chk_yes rfl]
        have HMAY := Lib.hid hmay
        clear hmay
        by_cases hon : o < nx
        · rcases HRI.out with ⟨q1, _, _⟩ | ⟨q1, rfl, rfl⟩
          · have := rise_take base rs (k + 1) (by rw [HSN.out]; simp only [Bool.and_eq_false_iff, decide_eq_false_iff_not]; right; omega)
            rw [this] at q1; cases q1
          · go_wp2_with fail
            go_ret2
            exact ⟨rfl, HW1.out⟩
        · have hob : nx ≤ o := by omega
          clear hon
          have hmm := HMAY.out
          simp only [mayRec, Bool.and_eq_true, decide_eq_true_eq] at hmm
          obtain ⟨⟨⟨⟨m1, m2⟩, m3⟩, m4⟩, m5⟩ := hmm
          have hne : wr.heap.size ≠ w.heap.size := by have := HB.out.elim (fun x => x.lt) (fun x => x.lt); omega
          have hkeep : ∀ wa wb : World, wa.heap[wr.heap.size]? = some (.cells #[.int .i64 o, .string kk, .string v, .bool g] 62 (0, 0)) → Kept w.heap.size wa wb → wb.heap[wr.heap.size]? = some (.cells #[.int .i64 o, .string kk, .string v, .bool g] 62 (0, 0)) := fun wa wb h1 h2 => (h2 _ _ _ _ h1 (by decide) hne).trans h1
          have HKP := Lib.hid hkeep
          have hL := HLE.out
          have l1 := vnum_length (o - base).toNat 5 (by show _ < 4398046511104; omega)
          have l2 := vnum_length kk.size 5 (by show _ < 4398046511104; omega)
          have l3 := vnum_length (v.size + 1) 5 (by show _ < 4398046511104; omega)
          have e1 : kk.data.toList.length = kk.size := by rw [Array.length_toList]; rfl
          have hz := lens (allBytes base (rs.take k)) (vnum (o - base).toNat) (vnum kk.size) kk.data.toList (vnum (v.size + 1)) kk.size v.size (Nat.le_trans hL (Nat.mul_le_mul_left _ (Nat.le_trans hk hn))) l1 l2 (Nat.le_of_eq e1) m3 l3 m4
          have HZ := Lib.hid hz
          clear hz
          have hwd : o - base = ((o - base).toNat : Int) := by omega
          have HWD := Lib.hid hwd
          clear hkeep hne hL l1 l2 l3 e1 hwd m5
          go_wp2_with fail
          have z0 : (o - base).toNat ≤ 1099511627776 := by omega
          refine (number' w.heap.size w.heap.size (allBytes base (rs.take k)) _ (o - base).toNat HWD.out z0 w1 hB1.out HZ.out.2.2.1 HW1.out.size).mono ?_
          clear z0
          rintro e w2 ⟨rfl, g1, g2, g3⟩
          have B2 := HKP.out _ _ HBLK.out g3
          obtain ⟨c0, c1, c2, c3⟩ := cells4 B2
          have HB2 := Lib.hid B2
          have HD2 := Lib.hid g1
          have HW2 := Lib.hid (HW1.out.trans g2)
          clear B2 g1 g2 g3 HW1 HBLK hB1
          go_wp2_with fail
          refine (number' w.heap.size w.heap.size _ _ kk.size rfl HZ.out.1 w2 HD2.out HZ.out.2.2.2.1 HW2.out.size).mono ?_
          rintro e w3 ⟨rfl, g1, g2, g3⟩
          have B3 := HKP.out _ _ HB2.out g3
          obtain ⟨c0, c1, c2, c3⟩ := cells4 B3
          have HB3 := Lib.hid B3
          have HD3 := Lib.hid g1
          have HW3 := Lib.hid (HW2.out.trans g2)
          clear B3 g1 g2 g3 HW2 HB2 HD2
          go_wp2_with fail
          refine (writeString w.heap.size w.heap.size _ kk w3 HD3.out HZ.out.2.2.2.2.1 HW3.out.size).mono ?_
          rintro e w4 ⟨rfl, g1, g2, g3⟩
          have B4 := HKP.out _ _ HB3.out g3
          obtain ⟨c0, c1, c2, c3⟩ := cells4 B4
          have HB4 := Lib.hid B4
          have HD4 := Lib.hid g1
          have HW4 := Lib.hid (HW3.out.trans g2)
          clear B4 g1 g2 g3 HW3 HB3 HD3
          cases g with
          | true =>
            go_wp2_with fail
            refine (number' w.heap.size w.heap.size _ _ 0 rfl (Nat.zero_le _) w4 HD4.out HZ.out.2.2.2.2.2.1 HW4.out.size).mono ?_
            rintro e w5 ⟨rfl, g1, g2, g3⟩
            have HD5 := Lib.hid g1
            have HW5 := Lib.hid (HW4.out.trans g2)
            clear g1 g2 g3 HW4 HB4 HD4
            go_wp2
            go_roundw
            case rel =>
              refine ⟨k + 1, hlt, by go_num, by rw [HNX.out], ?_, ?_, HW5.out⟩
              · rw [HSN.out]; simp only [Rec.may, HMAY.out, Bool.true_and, decide_eq_true_eq]; try exact hob
              · rw [HAL.out]; simpa [recBytes] using HD5.out
            case measure => simp [intOf]; omega
          | false =>
            go_wp2_with fail
            refine (number' w.heap.size w.heap.size _ _ (v.size + 1) rfl HZ.out.2.1 w4 HD4.out HZ.out.2.2.2.2.2.2.1 HW4.out.size).mono ?_
            rintro e w5 ⟨rfl, g1, g2, g3⟩
            have B5 := HKP.out _ _ HB4.out g3
            obtain ⟨c0, c1, c2, c3⟩ := cells4 B5
            have HD5 := Lib.hid g1
            have HW5 := Lib.hid (HW4.out.trans g2)
            clear B5 g1 g2 g3 HW4 HB4 HD4
            go_wp2_with fail
            refine (writeString w.heap.size w.heap.size _ v w5 HD5.out HZ.out.2.2.2.2.2.2.2 HW5.out.size).mono ?_
            rintro e w6 ⟨rfl, g1, g2, g3⟩
            have HD6 := Lib.hid g1
            have HW6 := Lib.hid (HW5.out.trans g2)
            clear g1 g2 g3 HW5 HD5
            go_wp2
            go_roundw
            case rel =>
              refine ⟨k + 1, hlt, by go_num, by rw [HNX.out], ?_, ?_, HW6.out⟩
              · rw [HSN.out]; simp only [Rec.may, HMAY.out, Bool.true_and, decide_eq_true_eq]; try exact hob
              · rw [HAL.out]; simpa [recBytes] using HD6.out
            case measure => simp [intOf]; omega
    · obtain rfl : k = rs.length := by omega
      have hall : rs.take rs.length = rs := List.take_length
      rw [hall] at HRS HB
      rcases HRI.out with ⟨q1, rfl, rfl⟩ | ⟨q1, _, _⟩
      · go_wp2_with fail
        refine (Tryz.Builder_String_any w.heap.size w.heap.size (allBytes base rs) wr HB.out HW.out.size).mono ?_
        rintro e w2 ⟨rfl, hb2⟩
        go_wp2
        go_ret2
        exact ⟨rfl, HW.out.trans hb2⟩
      · rw [HRS.out] at q1; cases q1
end Go.Proofs.YtcioejacijkbcaaGreatDoor.Rc
