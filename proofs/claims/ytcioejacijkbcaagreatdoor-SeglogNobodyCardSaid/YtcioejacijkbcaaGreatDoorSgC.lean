/- segment: a batch's text by no codec, and what batch.Of and batch.Head say of it. -/
import Derived.Test.YtcioejacijkbcaaGreatDoorSgB
import Derived.Deep.QuietTactic
import Derived.BigQuiet
import Derived.StillTailTactics
namespace Go.Proofs.YtcioejacijkbcaaGreatDoor.Sg
open Go.RowKit Go.Proofs.YtcioejacijkbcaaGreatDoor.Su Go.Proofs.YtcioejacijkbcaaGreatDoor.Bt Go.Proofs.YtcioejacijkbcaaGreatDoor.Sb Go.Proofs.YtcioejacijkbcaaGreatDoor.Rc Go.Proofs.YtcioejacijkbcaaGreatDoor.Ba
set_option linter.unusedVariables false
/-- a batch -/
structure Bat where
  b : Nat
  c : Nat
  v : Nat
  p : Nat
  q : Nat
  rs : List Rec
structure Bat.Ok (x : Bat) : Prop where
  may : mayB x.b x.c x.v x.p x.q x.rs = true
  small : (recsStr x.b x.rs).size ≤ 262115
def Bat.l (x : Bat) : List UInt8 := outer (inner x.b x.c x.v x.p x.q 0 x.rs.length (recsStr x.b x.rs).size (recsStr x.b x.rs).data.toList)
theorem nat_bounds {b c : Nat} (b1 : (b : Int) ≤ 1099511627520) (c0 : 1 ≤ (c : Int)) (c1 : (c : Int) ≤ 256) : b ≤ 1099511627520 ∧ 1 ≤ c ∧ c ≤ 256 ∧ b + c ≤ 1099511627776 := by omega
theorem Bat.Ok.bounds {x : Bat} (h : x.Ok) : x.b ≤ 1099511627520 ∧ 1 ≤ x.c ∧ x.c ≤ 256 ∧ x.b + x.c ≤ 1099511627776 := by
  obtain ⟨⟨b0, b1⟩, ⟨c0, c1⟩, _, _, _⟩ := headed_bounds (may_parts h.may).1
  exact nat_bounds b1 c0 c1
theorem outer_length (I : List UInt8) : (outer I).length = 10 + I.length := by simp [outer, le_length]; omega
theorem text_length (a b c d e : Int) (n : Nat) (P : ByteArray) : (outer (inner a b c d e 0 n P.size P.data.toList)).length = 39 + P.size := by
  rw [outer_length, inner_length, ← size_data]; omega
theorem Bat.len (x : Bat) : x.l.length = 39 + (recsStr x.b x.rs).size := text_length _ _ _ _ _ _ _
theorem Bat.Ok.len {x : Bat} (h : x.Ok) : 39 ≤ x.l.length ∧ x.l.length ≤ 262154 := by
  have := x.len; have := h.small; omega
theorem Bat.Ok.head {x : Bat} (h : x.Ok) (t : List UInt8) : headErr (x.l ++ t) = 0 ∧ hdOf (x.l ++ t) = ⟨x.b, x.c, x.v, x.p, x.q, (x.l.length : Int)⟩ := by
  obtain ⟨h1, h2, h3⟩ := may_parts h.may
  have hs := h.small
  obtain ⟨q1, q2, q3⟩ := head_back (codec := 0) (t := t) (z := (recsStr x.b x.rs).data.toList) h1 (by omega) (show x.rs.length < 65536 by omega) (show (recsStr x.b x.rs).size < 4294967296 by omega) (by rw [← size_data]; exact hs)
  exact ⟨q1, q3⟩
theorem head_bat (x : Bat) (h : x.Ok) (t : List UInt8) (s : ByteArray) (hs : s.data.toList = x.l ++ t) (hsz : s.size ≤ 1099511627776) (w : World) :
    Calls Tryz.prog 44 #[.string s] w fun e w' => e = .returned (.tuple #[.agg #[.int .i64 x.b, .int .i64 x.c, .int .i64 x.v, .int .i64 x.p, .int .i64 x.q, .slice none 0 0], .int .i64 x.l.length, .int .i64 0]) ∧ Below w.heap.size w w' := by
  obtain ⟨q1, q2⟩ := h.head t
  have hv := head_val_ok s.data.toList (by rw [hs]; exact q1)
  rw [hs, q2] at hv
  refine (head_all s w hsz).mono ?_
  rintro e w' ⟨he, hb⟩
  refine ⟨?_, hb⟩
  rw [he, hs, hv]
theorem of_bat' (b c v p q : Int) (rs : List Rec) (P : ByteArray) (hP : recsStr b rs = P) (may : mayB b c v p q rs = true) (hsm : P.size ≤ 262115) (t : List UInt8) (s : ByteArray) (hs' : s.data.toList = outer (inner b c v p q 0 rs.length P.size P.data.toList) ++ t) (hsz : s.size ≤ 1099511627776) (w : World) :
    Calls Tryz.prog 23 #[.string s] w fun e w' => (∃ ap cap, e = .returned (.tuple #[.agg #[.int .i64 b, .int .i64 c, .int .i64 v, .int .i64 p, .int .i64 q, .slice ap rs.length cap], .int .i64 ((outer (inner b c v p q 0 rs.length P.size P.data.toList)).length : Nat), .int .i64 0]) ∧ RecsAt w' ap rs) ∧ Below w.heap.size w w' := by
  obtain ⟨h1, h2, h3⟩ := may_parts may
  have hz : P.data.toList.length = P.size := (size_data P).symm
  obtain ⟨q1, q2, q3⟩ := head_back (codec := 0) (n := rs.length) (p := P.size) (t := t) (z := P.data.toList) h1 (by omega) (by omega) (by omega) (by omega)
  obtain ⟨i0, i1, i2, i3, i4, i5, i6, i7, i8⟩ := inner_fields (codec := 0) (n := rs.length) (p := P.size) (z := P.data.toList) h1 (by omega) (by omega) (by omega)
  have hbb := body_back (codec := 0) (t := t) (z := P.data.toList) may (by omega) (by rw [hP]; omega) (by omega)
  rw [hP] at hbb
  rw [← hs'] at q1 q2 q3 hbb
  rw [← q2] at i6 i7 i8
  clear i0 i1 i2 i3 i4 i5
  refine (of_batch s w hsz (fun _ p used er => p = P ∧ used = (P.size : Int) ∧ er = 0) ?_ ?_ ?_).mono ?_
  · intro _ _ _ W
    refine (codec0_unpack W _ _).mono ?_
    rintro e w' ⟨rfl, rfl⟩
    have hd : str ((sumd s.data.toList).drop 29) = P := by rw [i8]; exact str_id _
    exact ⟨_, _, _, rfl, ⟨hd, congrArg (fun x : ByteArray => (x.size : Int)) hd, rfl⟩, by rw [hd]; omega, Below.refl _ _⟩
  · intro _ hc; exfalso; rw [i7] at hc; cases hc
  · intro _ hc; exfalso; rw [i7] at hc; cases hc
  · rintro e w' (⟨hne, _⟩ | ⟨_, hl, _⟩ | ⟨_, _, p, used, er, ⟨rfl, rfl, rfl⟩, hb⟩)
    · exact absurd q1 hne
    · exfalso; rw [i6] at hl; omega
    · rw [q3] at hb
      rw [hz] at hbb
      rw [hbb] at hb
      rcases hb with ⟨rs', ap, cap, hrs, he, hcap, hat, hbl⟩ | ⟨hno, _⟩
      · cases hrs
        exact ⟨⟨ap, cap, he, hat⟩, hbl⟩
      · cases hno
theorem of_bat (x : Bat) (h : x.Ok) (t : List UInt8) (s : ByteArray) (hs : s.data.toList = x.l ++ t) (hsz : s.size ≤ 1099511627776) (w : World) :
    Calls Tryz.prog 23 #[.string s] w fun e w' => (∃ ap cap, e = .returned (.tuple #[.agg #[.int .i64 x.b, .int .i64 x.c, .int .i64 x.v, .int .i64 x.p, .int .i64 x.q, .slice ap x.rs.length cap], .int .i64 x.l.length, .int .i64 0]) ∧ RecsAt w' ap x.rs) ∧ Below w.heap.size w w' :=
  of_bat' x.b x.c x.v x.p x.q x.rs _ rfl h.may h.small t s hs hsz w
/-- bytes that are too few -/
theorem of_few (s : ByteArray) (h : s.size < 10) (w : World) : Calls Tryz.prog 23 #[.string s] w fun e w' => e = .returned (.tuple #[zb, .int .i64 0, .int .i64 5]) ∧ Below w.heap.size w w' :=
  of_nohead s w (by omega) 5 (by unfold headErr; rw [if_pos (by rw [← size_data]; exact h)]) (by decide)
end Go.Proofs.YtcioejacijkbcaaGreatDoor.Sg
/- segment: Append. -/
namespace Go.Proofs.YtcioejacijkbcaaGreatDoor.Sg
open Go.RowKit Go.Maps Go.ChangeMaps Go.WideMaps Go.Proofs.YtcioejacijkbcaaGreatDoor.Vd Go.Proofs.YtcioejacijkbcaaGreatDoor.Rc Go.Proofs.YtcioejacijkbcaaGreatDoor.Ba
set_option linter.unusedVariables false
set_option linter.unusedSimpArgs false
theorem genw {P : Program} {c : Code} {Q : Exit → Act → World → Prop} {a : Act} {w : World} (h : ∀ W, W = w → Code.wp P c Q a W) : Code.wp P c Q a w := h w rfl
theorem SgAt.below {w w' : World} {bs bd : Nat} {name : ByteArray} {base en size n : Nat} {mv : Value} {ms : List (Nat × Nat)} (S : SgAt w bs bd name base en size n mv ms) (hb : Below w.heap.size w w') : SgAt w' bs bd name base en size n mv ms :=
  ⟨(hb.block _ (Vd.lt_of_heap S.cell)).trans S.cell, Vd.ownsRow_at S.own fun k hk => hb.block k (World.ownsRow.lt S.own k hk).2⟩
/-- what Append leaves, by what the disk's did -/
def AppPost (w : World) (bs bd : Nat) (name : ByteArray) (base size n : Nat) (mv : Value) (ms : List (Nat × Nat)) (x : Bat) (er : Int) (Post : World → World → Prop) (w' : World) : Prop :=
  ∃ W w1, Below w.heap.size w W ∧ Post W w1 ∧
      ((er ≠ 0 ∧ w' = w1) ∨ (er = 0 ∧ ∃ mv', SgAt w' bs bd name base (x.b + x.c) (size + x.l.length) (n + 1) mv' (if n % 4 = 0 then ms ++ [(x.b, size)] else ms) ∧ Vd.Touch (fun k => k = bs ∨ mv.ownBlock = some k) w1 w' ∧ (∀ k, mv'.ownBlock = some k → mv.ownBlock = some k ∨ w1.heap.size ≤ k)))
set_option maxRecDepth 100000 in
set_option maxHeartbeats 1000000 in
/-- a batch that comes next: what the disk says of it -/
theorem append_next {w : World} {bs bd : Nat} {name : ByteArray} {base size n : Nat} {mv : Value} {ms : List (Nat × Nat)} (x : Bat) (S : SgAt w bs bd name base x.b size n mv ms) (h : x.Ok) (s : ByteArray) (hs : s.data.toList = x.l)
    (h1 : size ≤ 1099511627776) (h2 : n ≤ 1099511627776) (h3 : ms.length ≤ 1099511627776) (er : Int) (Post : World → World → Prop)
    (hd : ∀ W, Below w.heap.size w W → Calls Tryz.prog 60 #[.pointer (some ⟨bd, 0, none⟩), .string name, .string s] W fun e w' => e = .returned (.int .i64 er) ∧ Post W w' ∧ SgAt w' bs bd name base x.b size n mv ms ∧ ∀ k, w.heap.size ≤ k → k < W.heap.size → w'.heap[k]? = W.heap[k]?) :
    Calls Tryz.prog 26 #[.pointer (some ⟨bs, 0, none⟩), .string s] w fun e w' => e = .returned (.int .i64 er) ∧ AppPost w bs bd name base size n mv ms x er Post w' := by
  obtain ⟨hl1, hl2⟩ := h.len
  obtain ⟨hb1, hb2, hb3, hb4⟩ := h.bounds
  have hsz : s.size = x.l.length := by rw [Bt.size_data, hs]
  obtain ⟨c0, c1, c2, c3, c4, c5, c6⟩ := cells7 S.cell
  have HS := Lib.hid S
  have HX := Lib.hid h
  have HT := Lib.hid hs
  have HD := Lib.hid hd
  clear S h hs hd
  go_enter Tryz.func26, Tryz.ntmps26
  go_wp2_with fail
  refine (given_yes _ bs _ c0).mono ?_
  rintro e w1 ⟨rfl, rfl⟩
  go_wp2_with fail
  refine (of_bat x HX.out [] s (by rw [HT.out, List.append_nil]) (by omega) _).mono ?_
  rintro e w1 ⟨⟨ap, cap, rfl, _⟩, hb⟩
  have HB := Lib.hid hb
  clear c0 c1 c2 c3 c4 c5 c6 hb
  go_upto_region 4 with (fail)
  refine genw ?_
  intro W hW
  have hcell : W.heap[w1.heap.size]? = some (.cells #[.int .i64 x.b, .int .i64 x.c, .int .i64 x.v, .int .i64 x.p, .int .i64 x.q, .slice ap x.rs.length cap] 59 (0, 0)) := by rw [hW]; exact heap_alloc_last w1 _
  have hBW : Below w.heap.size w W := by rw [hW]; exact HB.out.alloc HB.out.size _
  have hbk : w.heap.size ≤ w1.heap.size := HB.out.size
  clear hW
  generalize w1.heap.size = bk at hcell hbk ⊢
  clear HB
  have SW := HS.out.below hBW
  have HC := Lib.hid hcell
  have HBW := Lib.hid hBW
  have HBK := Lib.hid hbk
  have HSW := Lib.hid SW
  obtain ⟨z0, z1, z2, z3, z4, z5⟩ := cells6 hcell
  obtain ⟨c0, c1, c2, c3, c4, c5, c6⟩ := cells7 SW.cell
  clear SW hcell hBW hbk
  have hq : ((x.l.length : Int) != (s.size : Int)) = false := by rw [hsz]; simp
  go_wp2_with fail
  go_quiet (fail)
  go_upto_region 8 with (fail)
  refine genw ?_
  intro W1 hW1
  have hB1 : Below w.heap.size w W1 := by rw [hW1]; exact HBW.out.trans ⟨rfl, rfl, rfl, Nat.le_refl _, fun _ _ => rfl⟩
  have hC1 : W1.heap[bk]? = some (.cells #[.int .i64 x.b, .int .i64 x.c, .int .i64 x.v, .int .i64 x.p, .int .i64 x.q, .slice ap x.rs.length cap] 59 (0, 0)) := by rw [hW1]; exact HC.out
  clear hW1 z0 z1 z2 z3 z4 z5 c0 c1 c2 c3 c4 c5 c6
  have SW1 := HS.out.below hB1
  obtain ⟨c0, c1, c2, c3, c4, c5, c6⟩ := cells7 SW1.cell
  have HC1 := Lib.hid hC1
  have HB1 := Lib.hid hB1
  clear SW1 hC1 hB1 HC HBW HSW
  go_still_tail 9, (by kernel_rfl)
  change wpList _ _ _ _ _ W1.drew
  have hB2 := Lib.hid (HB1.out.drew)
  have hC2 := Lib.hid (show W1.drew.heap[bk]? = _ from HC1.out)
  have hlt2 := Vd.lt_of_heap hC2.out
  clear c0 c1 c2 c3 c4 c5 c6 HC1 HB1
  generalize W1.drew = W2 at hB2 hC2 hlt2 ⊢
  go_wp2_with fail
  refine (HD.out W2 hB2.out).mono ?_
  rintro e w2 ⟨rfl, hP, hS2, hk2⟩
  have HP := Lib.hid hP
  have HS2 := Lib.hid hS2
  have hc2 := (hk2 bk HBK.out hlt2).trans hC2.out
  obtain ⟨z0, z1, z2, z3, z4, z5⟩ := cells6 hc2
  clear hP hS2 hk2 hc2 HD
  by_cases he : er = 0
  · subst he
    go_wp2_with fail
    refine (note_yes HS2.out x.b x.c x.l.length x.v x.p x.q (.slice ap x.rs.length cap) (by omega) (by omega) (by omega) h1 h2 h3).mono ?_
    rintro e w3 ⟨rfl, mv', hS3, hT3, hN3⟩
    have H3 := Lib.hid hS3
    have HT3 := Lib.hid hT3
    have HN3 := Lib.hid hN3
    clear hS3 hT3 hN3 h1 h2 h3 hb1 hb2 hb3 hb4 hl1 hl2 hsz hq
    go_wp2
    go_ret
    exact ⟨rfl, W2, w2, hB2.out, HP.out, .inr ⟨rfl, mv', H3.out, HT3.out, HN3.out⟩⟩
  · have he1 : (er == 0) = false := beq_eq_false_iff_ne.2 he
    have HE := Lib.hid he
    clear he h1 h2 h3 hb1 hb2 hb3 hb4 hl1 hl2 hsz hq
    go_wp2
    go_ret
    exact ⟨rfl, W2, w2, hB2.out, HP.out, .inl ⟨HE.out, rfl⟩⟩
end Go.Proofs.YtcioejacijkbcaaGreatDoor.Sg
/- segment: Append that refuses. -/
namespace Go.Proofs.YtcioejacijkbcaaGreatDoor.Sg
open Go.RowKit Go.Maps Go.ChangeMaps Go.WideMaps Go.Proofs.YtcioejacijkbcaaGreatDoor.Vd Go.Proofs.YtcioejacijkbcaaGreatDoor.Rc Go.Proofs.YtcioejacijkbcaaGreatDoor.Ba
set_option linter.unusedVariables false
set_option linter.unusedSimpArgs false
set_option maxRecDepth 100000 in
set_option maxHeartbeats 1000000 in
/-- a batch that does not come next -/
theorem append_order {w : World} {bs bd : Nat} {name : ByteArray} {base en size n : Nat} {mv : Value} {ms : List (Nat × Nat)} (x : Bat) (S : SgAt w bs bd name base en size n mv ms) (h : x.Ok) (s : ByteArray) (hs : s.data.toList = x.l) (hne : x.b ≠ en) :
    Calls Tryz.prog 26 #[.pointer (some ⟨bs, 0, none⟩), .string s] w fun e w' => e = .returned (.int .i64 110) ∧ Below w.heap.size w w' := by
  obtain ⟨hl1, hl2⟩ := h.len
  obtain ⟨hb1, hb2, hb3, hb4⟩ := h.bounds
  have hsz : s.size = x.l.length := by rw [Bt.size_data, hs]
  obtain ⟨c0, c1, c2, c3, c4, c5, c6⟩ := cells7 S.cell
  have HS := Lib.hid S
  have HX := Lib.hid h
  have HT := Lib.hid hs
  clear S h hs
  go_enter Tryz.func26, Tryz.ntmps26
  go_wp2_with fail
  refine (given_yes _ bs _ c0).mono ?_
  rintro e w1 ⟨rfl, rfl⟩
  go_wp2_with fail
  refine (of_bat x HX.out [] s (by rw [HT.out, List.append_nil]) (by omega) _).mono ?_
  rintro e w1 ⟨⟨ap, cap, rfl, _⟩, hb⟩
  have HB := Lib.hid hb
  clear c0 c1 c2 c3 c4 c5 c6 hb
  go_upto_region 4 with (fail)
  refine genw ?_
  intro W hW
  have hcell : W.heap[w1.heap.size]? = some (.cells #[.int .i64 x.b, .int .i64 x.c, .int .i64 x.v, .int .i64 x.p, .int .i64 x.q, .slice ap x.rs.length cap] 59 (0, 0)) := by rw [hW]; exact heap_alloc_last w1 _
  have hBW : Below w.heap.size w W := by rw [hW]; exact HB.out.alloc HB.out.size _
  have hbk : w.heap.size ≤ w1.heap.size := HB.out.size
  clear hW
  generalize w1.heap.size = bk at hcell hbk ⊢
  clear HB
  have SW := HS.out.below hBW
  have HC := Lib.hid hcell
  have HBW := Lib.hid hBW
  have HBK := Lib.hid hbk
  have HSW := Lib.hid SW
  obtain ⟨z0, z1, z2, z3, z4, z5⟩ := cells6 hcell
  obtain ⟨c0, c1, c2, c3, c4, c5, c6⟩ := cells7 SW.cell
  clear SW hcell hBW hbk
  have hq : ((x.l.length : Int) != (s.size : Int)) = false := by rw [hsz]; simp
  have hc : ((x.b : Int) != (en : Int)) = true := bne_iff_ne.2 (by omega)
  clear hb1 hb2 hb3 hb4 hl1 hl2 hsz hne
  go_wp2_with fail
  go_quiet (fail)
  go_wp2
  go_ret
  exact ⟨rfl, HBW.out.trans ⟨rfl, rfl, rfl, Nat.le_refl _, fun _ _ => rfl⟩⟩
end Go.Proofs.YtcioejacijkbcaaGreatDoor.Sg
