/- record: the two closures of Of. -/
import Derived.Test.YtcioejacijkbcaaGreatDoorRcB
import Derived.Test.YtcioejacijkbcaaGreatDoorBtD
namespace Go.Proofs.YtcioejacijkbcaaGreatDoor.Rc
open Go.RowKit Go.Maps Go.ChangeMaps Go.WideMaps Go.Proofs.YtcioejacijkbcaaGreatDoor.Su Go.Proofs.YtcioejacijkbcaaGreatDoor.Bt Go.Proofs.YtcioejacijkbcaaGreatDoor.Sb
set_option linter.unusedVariables false
/-- what is left to read, and whether all was well -/
structure Rd where
  l : List UInt8
  ok : Bool
structure RdAt (w : World) (bs bo : Nat) (st : Rd) : Prop where
  s : w.heap[bs]? = some (.cells #[.string (str st.l)] 9 (0, 0))
  o : w.heap[bo]? = some (.cells #[.bool st.ok] 4 (0, 0))
  ne : bs ≠ bo
/-- all but two blocks stand -/
structure But2 (bs bo : Nat) (w w' : World) : Prop where
  os : w'.os = w.os
  tape : w'.tape = w.tape
  output : w'.output = w.output
  size : w'.heap.size = w.heap.size
  same : ∀ k, k ≠ bs → k ≠ bo → w'.heap[k]? = w.heap[k]?
theorem But2.refl (bs bo : Nat) (w : World) : But2 bs bo w w := ⟨rfl, rfl, rfl, rfl, fun _ _ _ => rfl⟩
theorem But2.trans {bs bo : Nat} {w w1 w2 : World} (h1 : But2 bs bo w w1) (h2 : But2 bs bo w1 w2) : But2 bs bo w w2 := ⟨h2.os.trans h1.os, h2.tape.trans h1.tape, h2.output.trans h1.output, h2.size.trans h1.size, fun k a b => (h2.same k a b).trans (h1.same k a b)⟩
theorem But2.below {bs bo B : Nat} {w w' : World} (h : But2 bs bo w w') (h1 : B ≤ bs) (h2 : B ≤ bo) : Below B w w' :=
  ⟨h.os, h.tape, h.output, by rw [h.size]; exact Nat.le_refl _, fun k hk => h.same k (by omega) (by omega)⟩
theorem set_size (w : World) (a : Addr) (v : Value) : (w.setCell a v).heap.size = w.heap.size := by unfold World.setCell; simp
theorem set_other (w : World) (a : Addr) (v : Value) (k : Nat) (h : k ≠ a.block) : (w.setCell a v).heap[k]? = w.heap[k]? := by
  unfold World.setCell
  simp only [Array.getElem?_modify]
  rw [if_neg (Ne.symm h)]
theorem set_one (w : World) (b : Nat) (x v : Value) (T : TypeId) (h : w.heap[b]? = some (.cells #[x] T (0, 0))) : (w.setCell ⟨b, 0, none⟩ v).heap[b]? = some (.cells #[v] T (0, 0)) := by
  unfold World.setCell
  simp only [Array.getElem?_modify, if_true, h]
  rfl
theorem cells1 {w : World} {b : Nat} {x : Value} {T : TypeId} (h : w.heap[b]? = some (.cells #[x] T (0, 0))) : w.cell? ⟨b, 0, none⟩ = some x ∧ w.frozen? ⟨b, 0, none⟩ = false :=
  ⟨by rw [cell_of_row _ _ _ _ _ _ h]; rfl, Lib.frozen_of_heap h 0⟩
theorem RdAt.set_s {w : World} {bs bo : Nat} {st : Rd} (h : RdAt w bs bo st) (l : List UInt8) : RdAt (w.setCell ⟨bs, 0, none⟩ (.string (str l))) bs bo ⟨l, st.ok⟩ :=
  ⟨set_one w bs _ _ _ h.s, (set_other w _ _ bo (Ne.symm h.ne)).trans h.o, h.ne⟩
theorem RdAt.set_o {w : World} {bs bo : Nat} {st : Rd} (h : RdAt w bs bo st) (b : Bool) : RdAt (w.setCell ⟨bo, 0, none⟩ (.bool b)) bs bo ⟨st.l, b⟩ :=
  ⟨(set_other w _ _ bs h.ne).trans h.s, set_one w bo _ _ _ h.o, h.ne⟩
theorem But2.set_s (w : World) (bs bo : Nat) (v : Value) : But2 bs bo w (w.setCell ⟨bs, 0, none⟩ v) := ⟨rfl, rfl, rfl, set_size _ _ _, fun k h _ => set_other _ _ _ _ h⟩
theorem But2.set_o (w : World) (bs bo : Nat) (v : Value) : But2 bs bo w (w.setCell ⟨bo, 0, none⟩ v) := ⟨rfl, rfl, rfl, set_size _ _ _, fun k _ h => set_other _ _ _ _ h⟩
def stNumV (most : Int) (st : Rd) : Int := if (varT 9 st.l).2.2 ≠ 0 ∨ most < (varT 9 st.l).1 then 0 else (varT 9 st.l).1
def stNumR (most : Int) (st : Rd) : Rd := if (varT 9 st.l).2.2 ≠ 0 ∨ most < (varT 9 st.l).1 then ⟨st.l, false⟩ else ⟨st.l.drop (varT 9 st.l).2.1, st.ok⟩
def stTextV (n : Int) (st : Rd) : List UInt8 := if st.ok = false ∨ (st.l.length : Int) < n then [] else st.l.take n.toNat
def stTextR (n : Int) (st : Rd) : Rd := if st.ok = false ∨ (st.l.length : Int) < n then ⟨st.l, false⟩ else ⟨st.l.drop n.toNat, st.ok⟩
theorem str_extract (l : List UInt8) (a b : Nat) : (str l).extract a b = str ((l.drop a).take (b - a)) := by
  apply ByteArray.ext
  apply Array.ext'
  rw [extract_data, str_data, str_data]
theorem str_rest (l : List UInt8) (a : Nat) : (str l).extract a (str l).size = str (l.drop a) := by
  rw [str_extract, str_size, List.take_of_length_le (by simp)]
set_option maxRecDepth 100000 in
set_option maxHeartbeats 4000000 in
theorem of_num_no (w : World) (bs bo : Nat) (l : List UInt8) (ok : Bool) (most : Int) (h : RdAt w bs bo ⟨l, ok⟩) (hl : l.length ≤ 1099511627776) (v n : Nat) (er : Int) (hr : varT 9 l = (v, n, er)) (hb : er ≠ 0 ∨ most < (v : Int)) :
    Calls Tryz.prog 96 #[.int .i64 most, .pointer (some ⟨bs, 0, none⟩), .pointer (some ⟨bo, 0, none⟩)] w fun e w' =>
      e = .returned (.int .i64 0) ∧ w' = w.setCell ⟨bo, 0, none⟩ (.bool false) := by
  obtain ⟨x0, x1⟩ := cells1 h.s
  obtain ⟨y0, y1⟩ := cells1 h.o
  simp only at x0 y0
  have hv := var_any w (str l) (by rw [str_size]; exact hl) v n er (by rw [str_data]; exact hr)
  have HC := Lib.hid hv
  clear h hr hv
  go_enter Tryz.func96, Tryz.ntmps96
  go_wp2_with fail
  refine HC.out.mono ?_
  rintro e w1 ⟨rfl, rfl⟩
  by_cases he : er = 0
  · have hm : most < (v : Int) := hb.resolve_left (fun h => h he)
    subst he
    clear hb
    go_wp2
    go_ret
    exact ⟨rfl, rfl⟩
  · have he1 : (er == 0) = false := beq_eq_false_iff_ne.2 he
    have he2 : (er != 0) = true := by simp [he]
    clear hb he
    go_wp2
    go_ret
    exact ⟨rfl, rfl⟩
set_option maxRecDepth 100000 in
set_option maxHeartbeats 4000000 in
theorem of_num_ok (w : World) (bs bo : Nat) (l : List UInt8) (ok : Bool) (most : Int) (h : RdAt w bs bo ⟨l, ok⟩) (hl : l.length ≤ 1099511627776) (v n : Nat) (hr : varT 9 l = (v, n, 0)) (hm : ¬ most < (v : Int)) :
    Calls Tryz.prog 96 #[.int .i64 most, .pointer (some ⟨bs, 0, none⟩), .pointer (some ⟨bo, 0, none⟩)] w fun e w' =>
      e = .returned (.int .i64 v) ∧ w' = w.setCell ⟨bs, 0, none⟩ (.string (str (l.drop n))) := by
  obtain ⟨x0, x1⟩ := cells1 h.s
  obtain ⟨y0, y1⟩ := cells1 h.o
  simp only at x0 y0
  have hle := (varT_lt 9 l).2
  rw [hr] at hle
  simp only at hle
  have hv := var_any w (str l) (by rw [str_size]; exact hl) v n 0 (by rw [str_data]; exact hr)
  have HC := Lib.hid hv
  have hn0 : (0 : Int) ≤ (n : Int) := by omega
  have hn1 : (n : Int) ≤ ((str l).size : Int) := by rw [str_size]; omega
  have hn2 : n ≤ (str l).size := by rw [str_size]; omega
  clear h hr hv hle
  go_enter Tryz.func96, Tryz.ntmps96
  go_wp2_with fail
  refine HC.out.mono ?_
  rintro e w1 ⟨rfl, rfl⟩
  go_wp2
  go_ret
  exact ⟨rfl, by rw [str_rest]⟩
theorem of_num (w : World) (bs bo : Nat) (st : Rd) (most : Int) (h : RdAt w bs bo st) (hl : st.l.length ≤ 1099511627776) :
    Calls Tryz.prog 96 #[.int .i64 most, .pointer (some ⟨bs, 0, none⟩), .pointer (some ⟨bo, 0, none⟩)] w fun e w' =>
      e = .returned (.int .i64 (stNumV most st)) ∧ RdAt w' bs bo (stNumR most st) ∧ But2 bs bo w w' := by
  obtain ⟨l, ok⟩ := st
  obtain ⟨r, hr⟩ : ∃ r, varT 9 l = r := ⟨_, rfl⟩
  obtain ⟨v, n, er⟩ := r
  unfold stNumV stNumR
  simp only [hr]
  by_cases hb : er ≠ 0 ∨ most < (v : Int)
  · rw [if_pos hb, if_pos hb]
    refine (of_num_no w bs bo l ok most h hl v n er hr hb).mono ?_
    rintro e w' ⟨rfl, rfl⟩
    exact ⟨rfl, h.set_o false, But2.set_o _ _ _ _⟩
  · rw [if_neg hb, if_neg hb]
    have he : er = 0 := Classical.byContradiction fun h => hb (.inl h)
    subst he
    refine (of_num_ok w bs bo l ok most h hl v n hr (fun h => hb (.inr h))).mono ?_
    rintro e w' ⟨rfl, rfl⟩
    exact ⟨rfl, h.set_s _, But2.set_s _ _ _ _⟩
set_option maxRecDepth 100000 in
set_option maxHeartbeats 4000000 in
theorem of_text_no (w : World) (bs bo : Nat) (l : List UInt8) (ok : Bool) (n : Int) (h : RdAt w bs bo ⟨l, ok⟩) (hb : ok = false ∨ (l.length : Int) < n) :
    Calls Tryz.prog 98 #[.int .i64 n, .pointer (some ⟨bo, 0, none⟩), .pointer (some ⟨bs, 0, none⟩)] w fun e w' =>
      e = .returned (.string (str [])) ∧ w' = w.setCell ⟨bo, 0, none⟩ (.bool false) := by
  obtain ⟨x0, x1⟩ := cells1 h.s
  obtain ⟨y0, y1⟩ := cells1 h.o
  simp only at x0 y0
  clear h
  cases ok with
  | false =>
    clear hb
    go_enter Tryz.func98, Tryz.ntmps98
    go_wp2
    go_ret
    exact ⟨rfl, rfl⟩
  | true =>
    have hm : ((str l).size : Int) < n := by rw [str_size]; exact hb.resolve_left (by decide)
    clear hb
    go_enter Tryz.func98, Tryz.ntmps98
    go_wp2
    go_ret
    exact ⟨rfl, rfl⟩
set_option maxRecDepth 100000 in
set_option maxHeartbeats 4000000 in
theorem of_text_ok (w : World) (bs bo : Nat) (l : List UInt8) (n : Int) (h : RdAt w bs bo ⟨l, true⟩) (h0 : 0 ≤ n) (hn : n ≤ (l.length : Int)) :
    Calls Tryz.prog 98 #[.int .i64 n, .pointer (some ⟨bo, 0, none⟩), .pointer (some ⟨bs, 0, none⟩)] w fun e w' =>
      e = .returned (.string (str (l.take n.toNat))) ∧ w' = w.setCell ⟨bs, 0, none⟩ (.string (str (l.drop n.toNat))) := by
  obtain ⟨x0, x1⟩ := cells1 h.s
  obtain ⟨y0, y1⟩ := cells1 h.o
  simp only at x0 y0
  clear h
  have hm : ¬ ((str l).size : Int) < n := by rw [str_size]; omega
  have hm2 : n ≤ ((str l).size : Int) := by rw [str_size]; omega
  clear hn
  go_enter Tryz.func98, Tryz.ntmps98
  go_wp2
  go_ret
  exact ⟨by rw [← show (str l).extract 0 n.toNat = str (l.take n.toNat) from by rw [str_extract]; simp]; rfl, by rw [str_rest]⟩
theorem of_text (w : World) (bs bo : Nat) (st : Rd) (n : Int) (h : RdAt w bs bo st) (h0 : 0 ≤ n) :
    Calls Tryz.prog 98 #[.int .i64 n, .pointer (some ⟨bo, 0, none⟩), .pointer (some ⟨bs, 0, none⟩)] w fun e w' =>
      e = .returned (.string (str (stTextV n st))) ∧ RdAt w' bs bo (stTextR n st) ∧ But2 bs bo w w' := by
  obtain ⟨l, ok⟩ := st
  unfold stTextV stTextR
  simp only
  by_cases hb : ok = false ∨ (l.length : Int) < n
  · rw [if_pos hb, if_pos hb]
    refine (of_text_no w bs bo l ok n h hb).mono ?_
    rintro e w' ⟨rfl, rfl⟩
    exact ⟨rfl, h.set_o false, But2.set_o _ _ _ _⟩
  · rw [if_neg hb, if_neg hb]
    have he : ok = true := by cases ok with | true => rfl | false => exact absurd (.inl rfl) hb
    subst he
    have hn : n ≤ (l.length : Int) := by rcases Int.lt_or_le (l.length : Int) n with h | h; exact absurd (.inr h) hb; exact h
    refine (of_text_ok w bs bo l n h h0 hn).mono ?_
    rintro e w' ⟨rfl, rfl⟩
    exact ⟨rfl, h.set_s _, But2.set_s _ _ _ _⟩
end Go.Proofs.YtcioejacijkbcaaGreatDoor.Rc
