/- batch: what was written is read (plain lists). -/
import Derived.Test.YtcioejacijkbcaaGreatDoorBaE
namespace Go.Proofs.YtcioejacijkbcaaGreatDoor.Ba
open Go.RowKit Go.Proofs.YtcioejacijkbcaaGreatDoor.Su Go.Proofs.YtcioejacijkbcaaGreatDoor.Bt Go.Proofs.YtcioejacijkbcaaGreatDoor.Sb Go.Proofs.YtcioejacijkbcaaGreatDoor.Rc
set_option linter.unusedVariables false
theorem nv_skip {x y : List UInt8} {a k n : Nat} (h : x.length = n) (hn : n ≤ a) : nv (x ++ y) a k = nv y (a - n) k := by
  unfold nv
  rw [List.drop_append, List.drop_eq_nil_of_le (by omega), List.nil_append, h]
theorem nv_head {y : List UInt8} {n k : Nat} (hn : n < 256 ^ k) (h63 : n < 9223372036854775808) : nv (le n k ++ y) 0 k = n := by
  unfold nv
  rw [List.drop_zero, List.take_left' (le_length n k), num_le n k hn, if_pos h63]
theorem nv_tail {x y : List UInt8} {a k : Nat} (h : a + k ≤ x.length) : nv (x ++ y) a k = nv x a k := by
  unfold nv
  rw [List.drop_append_of_le_length (by omega), List.take_append_of_le_length (by rw [List.length_drop]; omega)]
/-- the fields of what is summed -/
theorem inner_fields {base count view producer seq : Int} {codec n p : Nat} {z : List UInt8} (hh : headed base count view producer seq = true) (hc : codec < 256) (hn : n < 65536) (hp : p < 4294967296) :
    nv (inner base count view producer seq codec n p z) 0 8 = base ∧ nv (inner base count view producer seq codec n p z) 8 2 = count ∧ nv (inner base count view producer seq codec n p z) 10 4 = view ∧
    nv (inner base count view producer seq codec n p z) 14 4 = producer ∧ nv (inner base count view producer seq codec n p z) 18 4 = seq ∧ nv (inner base count view producer seq codec n p z) 23 2 = n ∧
    nv (inner base count view producer seq codec n p z) 25 4 = p ∧ ((inner base count view producer seq codec n p z).getD 22 0).toNat = codec ∧ (inner base count view producer seq codec n p z).drop 29 = z := by
  obtain ⟨⟨b0, b1⟩, ⟨b2, b3⟩, ⟨b4, b5⟩, ⟨b6, b7⟩, b8, b9⟩ := headed_bounds hh
  have e : inner base count view producer seq codec n p z = le base.toNat 8 ++ (le count.toNat 2 ++ (le view.toNat 4 ++ (le producer.toNat 4 ++ (le seq.toNat 4 ++ (le codec 1 ++ (le n 2 ++ (le p 4 ++ z))))))) := by
    simp only [inner, List.append_assoc]
  rw [e]
  have h8 := fun m => le_length m 8
  have h2 := fun m => le_length m 2
  have h4 := fun m => le_length m 4
  have h1 := fun m => le_length m 1
  refine ⟨?_, ?_, ?_, ?_, ?_, ?_, ?_, ?_, ?_⟩
  · rw [nv_head (by show _ < 18446744073709551616; omega) (by omega)]; omega
  · rw [nv_skip (h8 _) (by omega), nv_head (by show _ < 65536; omega) (by omega)]; omega
  · rw [nv_skip (h8 _) (by omega), nv_skip (h2 _) (by omega), nv_head (by show _ < 4294967296; omega) (by omega)]; omega
  · rw [nv_skip (h8 _) (by omega), nv_skip (h2 _) (by omega), nv_skip (h4 _) (by omega), nv_head (by show _ < 4294967296; omega) (by omega)]; omega
  · rw [nv_skip (h8 _) (by omega), nv_skip (h2 _) (by omega), nv_skip (h4 _) (by omega), nv_skip (h4 _) (by omega), nv_head (by show _ < 4294967296; omega) (by omega)]; omega
  · rw [nv_skip (h8 _) (by omega), nv_skip (h2 _) (by omega), nv_skip (h4 _) (by omega), nv_skip (h4 _) (by omega), nv_skip (h4 _) (by omega), nv_skip (h1 _) (by omega), nv_head (by show _ < 65536; omega) (by omega)]
  · rw [nv_skip (h8 _) (by omega), nv_skip (h2 _) (by omega), nv_skip (h4 _) (by omega), nv_skip (h4 _) (by omega), nv_skip (h4 _) (by omega), nv_skip (h1 _) (by omega), nv_skip (h2 _) (by omega), nv_head (by show _ < 4294967296; omega) (by omega)]
  · have h5 : ((le base.toNat 8 ++ (le count.toNat 2 ++ (le view.toNat 4 ++ (le producer.toNat 4 ++ (le seq.toNat 4 ++ (le codec 1 ++ (le n 2 ++ (le p 4 ++ z))))))))).getD 22 0 = (le codec 1).getD 0 0 := by
      simp only [List.getD_eq_getElem?_getD]
      rw [List.getElem?_append_right (by rw [h8]; omega), List.getElem?_append_right (by rw [h8, h2]; omega), List.getElem?_append_right (by rw [h8, h2, h4]; omega), List.getElem?_append_right (by rw [h8, h2, h4, h4]; omega), List.getElem?_append_right (by rw [h8, h2, h4, h4, h4]; omega), List.getElem?_append_left (by rw [h8, h2, h4, h4, h4, h1]; omega)]
      rw [h8, h2, h4, h4, h4]
    rw [h5, List.getD_eq_getElem?_getD, le_get _ _ _ (by decide)]
    simp
    omega
  · have hl : (le base.toNat 8 ++ (le count.toNat 2 ++ (le view.toNat 4 ++ (le producer.toNat 4 ++ (le seq.toNat 4 ++ (le codec 1 ++ (le n 2 ++ le p 4))))))).length = 29 := by simp [le_length]
    have e2 : le base.toNat 8 ++ (le count.toNat 2 ++ (le view.toNat 4 ++ (le producer.toNat 4 ++ (le seq.toNat 4 ++ (le codec 1 ++ (le n 2 ++ (le p 4 ++ z))))))) = (le base.toNat 8 ++ (le count.toNat 2 ++ (le view.toNat 4 ++ (le producer.toNat 4 ++ (le seq.toNat 4 ++ (le codec 1 ++ (le n 2 ++ le p 4))))))) ++ z := by
      simp only [List.append_assoc]
    rw [e2]
    exact List.drop_left' hl
/-- the frame round what is summed -/
theorem outer_fields {I t : List UInt8} (h29 : 29 ≤ I.length) (hm : I.length ≤ 262144) :
    nv (outer I ++ t) 2 4 = I.length ∧ nv (outer I ++ t) 6 4 = crc I ∧ sumd (outer I ++ t) = I ∧ (outer I ++ t).take 2 = [80, 66] ∧ (outer I).length = 10 + I.length := by
  have e : outer I ++ t = [80, 66] ++ (le I.length 4 ++ (le (crc I) 4 ++ (I ++ t))) := by simp only [outer, List.append_assoc]
  have hc := crc_lt I
  have h1 : nv (outer I ++ t) 2 4 = I.length := by
    rw [e, nv_skip (n := 2) rfl (by omega), nv_head (by show _ < 4294967296; omega) (by omega)]
  refine ⟨h1, ?_, ?_, ?_, ?_⟩
  · rw [e, nv_skip (n := 2) rfl (by omega), nv_skip (le_length _ 4) (by omega), nv_head (by show _ < 4294967296; omega) (by omega)]
  · unfold sumd
    rw [h1, e]
    have e2 : [80, 66] ++ (le I.length 4 ++ (le (crc I) 4 ++ (I ++ t))) = ([80, 66] ++ (le I.length 4 ++ le (crc I) 4)) ++ (I ++ t) := by simp only [List.append_assoc]
    rw [e2, List.drop_left' (by simp [le_length]), Int.toNat_natCast, List.take_left' rfl]
  · rw [e]; rfl
  · simp [outer, le_length]; omega
/-- a batch's bytes, whatever stands behind, have its head -/
theorem head_back {base count view producer seq : Int} {codec n p : Nat} {z t : List UInt8} (hh : headed base count view producer seq = true) (hc : codec < 3) (hn : n < 65536) (hp : p < 4294967296) (hz : z.length ≤ 262115) :
    headErr (outer (inner base count view producer seq codec n p z) ++ t) = 0 ∧ sumd (outer (inner base count view producer seq codec n p z) ++ t) = inner base count view producer seq codec n p z ∧
    hdOf (outer (inner base count view producer seq codec n p z) ++ t) = ⟨base, count, view, producer, seq, ((outer (inner base count view producer seq codec n p z)).length : Int)⟩ := by
  obtain ⟨i0, i1, i2, i3, i4, i5, i6, i7, i8⟩ := inner_fields (z := z) hh (show codec < 256 by omega) hn hp
  have hl := inner_length base count view producer seq codec n p z
  obtain ⟨o1, o2, o3, o4, o5⟩ := outer_fields (I := inner base count view producer seq codec n p z) (t := t) (by omega) (by omega)
  generalize inner base count view producer seq codec n p z = I at *
  refine ⟨?_, o3, ?_⟩
  · unfold headErr
    rw [if_neg (by rw [List.length_append, o5]; omega), if_neg (by unfold front; rw [o1, o4]; simp; omega), if_neg (by rw [List.length_append, o5, o1]; omega)]
    rw [if_pos]
    unfold fits
    rw [o3, o2, i0, i1, i2, i3, i4, hh, i7]
    simp [hc]
  · unfold hdOf
    rw [o3, i0, i1, i2, i3, i4, o1, o5]
    simp
theorem str_eta (b : ByteArray) : str b.data.toList = b := by simp [str]
theorem num_back (n most : Nat) (l : List UInt8) (ok : Bool) (hn : n < 9223372036854775808) (hm : n ≤ most) : stNumV most ⟨vnum n ++ l, ok⟩ = n ∧ stNumR most ⟨vnum n ++ l, ok⟩ = ⟨l, ok⟩ := by
  have h := varT_vnum 9 n l (by show _ < 9223372036854775808; exact hn) (.inl rfl) (by decide)
  unfold stNumV stNumR
  simp only [h]
  rw [if_neg (by simp; omega), if_neg (by simp; omega), List.drop_left' rfl]
  exact ⟨rfl, rfl⟩
theorem text_back (t l : List UInt8) (n : Int) (h : n = t.length) : stTextV n ⟨t ++ l, true⟩ = t ∧ stTextR n ⟨t ++ l, true⟩ = ⟨l, true⟩ := by
  subst h
  unfold stTextV stTextR
  simp only
  rw [if_neg (by simp; omega), if_neg (by simp; omega), Int.toNat_natCast, List.take_left' rfl, List.drop_left' rfl]
  exact ⟨rfl, rfl⟩
/-- a record's bytes, whatever stands behind, are read as it -/
theorem rd1_back (base : Int) (r : Rec) (l : List UInt8) (hm : r.may = true) (hb : 0 ≤ base) (ho : base ≤ r.o) : rd1 base (recBytes base r ++ l) = (r, ⟨l, true⟩) := by
  obtain ⟨o, k, v, g⟩ := r
  simp only [Rec.may, mayRec, Bool.and_eq_true, decide_eq_true_eq, Bool.or_eq_true, Bool.not_eq_true'] at hm ho
  obtain ⟨⟨⟨⟨m1, m2⟩, m3⟩, m4⟩, m5⟩ := hm
  have e : recBytes base ⟨o, k, v, g⟩ ++ l = vnum (o - base).toNat ++ (vnum k.size ++ (k.data.toList ++ ((if g = true then vnum 0 else vnum (v.size + 1) ++ v.data.toList) ++ l))) := by
    simp only [recBytes, List.append_assoc]
  rw [e]
  have n1 := num_back (o - base).toNat 1099511627776 (vnum k.size ++ (k.data.toList ++ ((if g = true then vnum 0 else vnum (v.size + 1) ++ v.data.toList) ++ l))) true (by omega) (by omega)
  have n2 := num_back k.size 64 (k.data.toList ++ ((if g = true then vnum 0 else vnum (v.size + 1) ++ v.data.toList) ++ l)) true (by omega) m3
  have n3 := text_back k.data.toList ((if g = true then vnum 0 else vnum (v.size + 1) ++ v.data.toList) ++ l) (k.size : Int) (by rw [← size_data])
  unfold rd1
  rw [show (1099511627776 : Int) = ((1099511627776 : Nat) : Int) from rfl, show (64 : Int) = ((64 : Nat) : Int) from rfl]
  simp only [n1.1, n1.2, n2.1, n2.2, n3.1, n3.2]
  have hbo : base + ((o - base).toNat : Int) = o := by omega
  cases g with
  | true =>
    have hv0 : v.size = 0 := by rcases m5 with h | h; cases h; exact h
    have hve : v = ⟨#[]⟩ := by
      apply ByteArray.ext
      exact Array.eq_empty_of_size_eq_zero hv0
    have n4 := num_back 0 4097 l true (by omega) (by omega)
    rw [show (4097 : Int) = ((4097 : Nat) : Int) from rfl]
    simp only [if_true, n4.1, n4.2]
    simp [str_eta, hve]; omega
  | false =>
    have n4 := num_back (v.size + 1) 4097 (v.data.toList ++ l) true (by omega) (by omega)
    have n5 := text_back v.data.toList l (((v.size + 1 : Nat) : Int) - 1) (by rw [← size_data]; omega)
    rw [show (4097 : Int) = ((4097 : Nat) : Int) from rfl]
    simp only [Bool.false_eq_true, if_false, List.append_assoc, n4.1, n4.2]
    rw [if_neg (by omega), if_neg (by omega), n5.1, n5.2]
    simp only [str_eta, hbo, Prod.mk.injEq, Rec.mk.injEq, true_and, and_true]
    exact decide_eq_false (by omega)
theorem ofGo_back (base : Int) (hb : 0 ≤ base) : ∀ (rs : List Rec) (nx : Int) (l : List UInt8), rise nx rs = true → base ≤ nx → ofGo base rs.length nx (allBytes base rs ++ l) = some (rs, l)
  | [], _, _, _, _ => rfl
  | r :: rs, nx, l, h, hx => by
    simp only [rise, Bool.and_eq_true, decide_eq_true_eq] at h
    obtain ⟨⟨h1, h2⟩, h3⟩ := h
    have hr := rd1_back base r (allBytes base rs ++ l) h1 hb (by omega)
    have e : allBytes base (r :: rs) ++ l = recBytes base r ++ (allBytes base rs ++ l) := by simp [allBytes]
    rw [e, List.length_cons, ofGo, hr]
    rw [if_pos ⟨rfl, h1, h2⟩, ofGo_back base hb rs (r.o + 1) l h3 (by omega)]
    rfl
theorem recs_back {base : Int} {rs : List Rec} (h : okRecs base rs = true) : ofRecs (recsStr base rs).data.toList base rs.length = some rs := by
  have h' := h
  unfold okRecs at h'
  simp only [Bool.and_eq_true, decide_eq_true_eq] at h'
  obtain ⟨⟨h1, h2⟩, h3⟩ := h'
  unfold recsStr
  rw [if_pos h, str_data]
  unfold ofRecs
  rw [if_neg (by omega)]
  have := ofGo_back base h1 rs base [] h3 (Int.le_refl _)
  rw [List.append_nil] at this
  rw [Int.toNat_natCast, this]
/-- the body of a batch that was written, its records unpacked as they were -/
theorem body_back {base count view producer seq : Int} {rs : List Rec} {codec : Nat} {z t : List UInt8} (hm : mayB base count view producer seq rs = true) (hc : codec < 3) (hl : (recsStr base rs).size ≤ 1048576) (hz : z.length ≤ 262115) :
    bodyOf (outer (inner base count view producer seq codec rs.length (recsStr base rs).size z) ++ t) (recsStr base rs) z.length 0 = some rs := by
  obtain ⟨h1, h2, h3⟩ := may_parts hm
  obtain ⟨q1, q2, q3⟩ := head_back (t := t) (z := z) h1 hc (show rs.length < 65536 by omega) (show (recsStr base rs).size < 4294967296 by omega) hz
  obtain ⟨i0, i1, i2, i3, i4, i5, i6, i7, i8⟩ := inner_fields (z := z) h1 (show codec < 256 by omega) (show rs.length < 65536 by omega) (show (recsStr base rs).size < 4294967296 by omega)
  unfold bodyOf
  rw [q2, q3, i8, i6, i5]
  rw [if_pos ⟨rfl, rfl, rfl⟩, recs_back h2]
  simp only
  rw [if_pos hm]
end Go.Proofs.YtcioejacijkbcaaGreatDoor.Ba
