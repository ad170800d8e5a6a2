/- record: Of. -/
import Derived.Test.YtcioejacijkbcaaGreatDoorRcC
import Derived.Maps.AppendAt
import Derived.Laws.OwnMore
import Derived.Deep.Cut
namespace Go.Proofs.YtcioejacijkbcaaGreatDoor.Rc
open Go.RowKit Go.Maps Go.ChangeMaps Go.WideMaps Go.Proofs.YtcioejacijkbcaaGreatDoor.Su Go.Proofs.YtcioejacijkbcaaGreatDoor.Bt Go.Proofs.YtcioejacijkbcaaGreatDoor.Sb
set_option linter.unusedVariables false
def Rec.cells (r : Rec) : List Value := [.int .i64 r.o, .string r.k, .string r.v, .bool r.g]
/-- an own slice of records -/
def Recs (w : World) (base : Nat) (v : Value) (rs : List Rec) : Prop := w.ownsRow base 62 4 v rs.length (rs.flatMap Rec.cells)
theorem cells_length (rs : List Rec) : (rs.flatMap Rec.cells).length = rs.length * 4 := by
  induction rs with
  | nil => rfl
  | cons r rs ih => simp only [List.flatMap_cons, List.length_append, ih, List.length_cons]; simp [Rec.cells]; omega
theorem cells_get (rs : List Rec) (i j : Nat) (hi : i < rs.length) (hj : j < 4) : (rs.flatMap Rec.cells)[i * 4 + j]? = (rs[i].cells)[j]? := by
  induction rs generalizing i with
  | nil => simp at hi
  | cons r rs ih =>
    simp only [List.flatMap_cons]
    cases i with
    | zero =>
      rw [List.getElem?_append_left (by simp [Rec.cells]; omega)]
      simp
    | succ i =>
      rw [List.getElem?_append_right (by simp [Rec.cells]; omega)]
      rw [show (i + 1) * 4 + j - r.cells.length = i * 4 + j from by simp [Rec.cells]; omega]
      exact ih i (by simpa using hi)
theorem add0 (g n : Nat) : (⟨g, 0, none⟩ : Addr).add n = ⟨g, n, none⟩ := by unfold Addr.add; split <;> simp_all
theorem Recs.at {w : World} {base : Nat} {v : Value} {rs : List Rec} (h : Recs w base v rs) : ∃ ap cap, v = .slice ap rs.length cap ∧ rs.length ≤ cap ∧ RecsAt w ap rs := by
  have h' := h
  obtain ⟨_, h2⟩ := h
  rcases h2 with ⟨rfl, h0⟩ | ⟨g, cap, cur, rfl, hg, hb, hc, hm, hz, ht⟩
  · refine ⟨none, 0, by rw [h0], by omega, fun i hi => by omega⟩
  · refine ⟨_, cap, rfl, hc, fun i hi => ⟨⟨g, 0, none⟩, rfl, lt_of_heap hb, ?_⟩⟩
    have hcell : ∀ j, j < 4 → w.cell? ⟨g, i * 4 + j, none⟩ = (rs[i].cells)[j]? := fun j hj => by
      rw [World.ownsRow.cellAt h' (i * 4 + j) (by omega), cells_get rs i j hi hj]
    rw [add0]
    exact ⟨hcell 0 (by decide), hcell 1 (by decide), hcell 2 (by decide), hcell 3 (by decide)⟩
theorem Recs.nil (w : World) (base : Nat) : Recs w base (.slice none 0 0) [] := World.ownsRow_nil _ _ _ _
theorem Recs.same {w w' : World} {base : Nat} {v : Value} {rs : List Rec} (h : Recs w base v rs) (hb : ∀ k, v.ownBlock = some k → w'.heap[k]? = w.heap[k]?) : Recs w' base v rs := by
  obtain ⟨h1, h2⟩ := h
  refine ⟨h1, ?_⟩
  rcases h2 with h2 | ⟨g, cap, cur, rfl, hg, hh, h5⟩
  · exact .inl h2
  · exact .inr ⟨g, cap, cur, rfl, hg, (hb g rfl).trans hh, h5⟩
theorem infoR : ((Tryz.prog.info? 62).map fun i => (i.zero, i.size, i.bytes)) = some (some (.agg #[.int .i64 0, .string ⟨#[]⟩, .string ⟨#[]⟩, .bool false]), 4, 48) := by kernel_rfl
/-- one record more -/
theorem wpList_append_rec {w : World} {ops : Array Oper} {rest : List Oper} {o : Oper} {a : Act} {Q : Exit → Act → World → Prop} (hgd : o.guard = none) (s x : Operand)
    (ho : o.op = .call { callee := .builtin .append, args := #[s, x], argTypes := #[49, 49] })
    (base : Nat) (v : Value) (rs : List Rec) (hs : a.eval s = v) (hown : Recs w base v rs)
    (b : Nat) (r : Rec) (hx : a.eval x = .slice (some ⟨b, 0, none⟩) 1 1) (hc : w.heap[b]? = some (.cells #[.int .i64 r.o, .string r.k, .string r.v, .bool r.g] 62 (0, 0))) (hsz : rs.length ≤ 1048576) (hbase : base ≤ w.heap.size)
    (h : ∀ v' w', Recs w' base v' (rs ++ [r]) → w.grownBy w' v.ownBlock → (v'.ownBlock = v.ownBlock ∨ v'.ownBlock = some w.heap.size) → wpList Tryz.prog ops Q rest (a.put o.dst v') w') :
    wpList Tryz.prog ops Q (o :: rest) a w := by
  obtain ⟨i0, hi, hz0, hz1, hz2⟩ := info_parts infoR
  refine wpList_append_own_at _ hgd s x 49 ho base 62 i0 _ 4 48 Tryz.underlying49 hi hz0 hz1 hz2 rfl (by decide) v rs.length (rs.flatMap Rec.cells) hs hown ⟨b, 0, none⟩ 1 1 r.cells hx rfl ?_ ?_ (by unfold maxLen; omega) (by omega) hbase ?_
  · intro j u hu
    rw [add0, cell_of_row _ _ _ _ _ _ hc]
    have : j < 4 := (List.getElem?_eq_some_iff.1 hu).1
    rw [← hu]
    simp [Rec.cells]
  · intro u hu; simp [Rec.cells] at hu; rcases hu with rfl | rfl | rfl | rfl <;> rfl
  · intro v' w' h1 h2 _ h4
    exact h v' w' (by simpa [Recs, Rec.cells] using h1) h2 h4
/-- the first record of bytes, and what is left -/
def rd1 (base : Int) (l : List UInt8) : Rec × Rd :=
  let a : Rd := ⟨l, true⟩
  let b := stNumR 1099511627776 a
  let c := stNumR 64 b
  let d := stTextR (stNumV 64 b) c
  let e := stNumR 4097 d
  let n := stNumV 4097 d
  (⟨base + stNumV 1099511627776 a, str (stTextV (stNumV 64 b) c), if n = 0 then ⟨#[]⟩ else str (stTextV (n - 1) e), decide (n = 0)⟩, if n = 0 then e else stTextR (n - 1) e)
/-- so many records of bytes -/
def ofGo (base : Int) : Nat → Int → List UInt8 → Option (List Rec × List UInt8)
  | 0, _, l => some ([], l)
  | n + 1, next, l =>
    if (rd1 base l).2.ok = true ∧ (rd1 base l).1.may = true ∧ next ≤ (rd1 base l).1.o then (ofGo base n ((rd1 base l).1.o + 1) (rd1 base l).2.l).map fun r => ((rd1 base l).1 :: r.1, r.2)
    else none
def ofRecs (l : List UInt8) (base n : Int) : Option (List Rec) :=
  if base < 0 ∨ 1099511627776 ≤ base ∨ n < 0 then none else
  match ofGo base n.toNat base l with
  | some (rs, []) => some rs
  | _ => none
theorem stNum_len (m : Int) (st : Rd) : (stNumR m st).l.length ≤ st.l.length := by unfold stNumR; split <;> simp
theorem stText_len (m : Int) (st : Rd) : (stTextR m st).l.length ≤ st.l.length := by unfold stTextR; split <;> simp
theorem stNum_pos (m : Int) (st : Rd) : 0 ≤ stNumV m st := by unfold stNumV; split <;> omega
theorem stNum_le (m : Int) (st : Rd) (h : 0 ≤ m) : stNumV m st ≤ m := by unfold stNumV; split <;> omega
/-- what Of leaves -/
def OfPost (rs? : Option (List Rec)) (w : World) (e : Ending) (w' : World) : Prop :=
  (∃ rs ap cap, rs? = some rs ∧ e = .returned (.tuple #[.slice ap rs.length cap, .int .i64 0]) ∧ rs.length ≤ cap ∧ RecsAt w' ap rs ∧ Below w.heap.size w w' ∧ ∀ a, ap = some a → w.heap.size ≤ a.block) ∨
  (rs? = none ∧ e = .returned (.tuple #[.slice none 0 0, .int .i64 90]) ∧ Below w.heap.size w w')
set_option maxRecDepth 100000 in
set_option maxHeartbeats 4000000 in
theorem of_out (s : ByteArray) (base n : Int) (w : World) (hb : base < 0 ∨ 1099511627776 ≤ base ∨ n < 0) :
    Calls Tryz.prog 58 #[.string s, .int .i64 base, .int .i64 n] w fun e w' => e = .returned (.tuple #[.slice none 0 0, .int .i64 90]) ∧ Below w.heap.size w w' := by
  by_cases h1 : base < 0
  · clear hb
    go_enter Tryz.func58, Tryz.ntmps58
    go_wp2
    go_ret2
    exact ⟨rfl, (Below.refl _ _).alloc (Nat.le_refl _) _⟩
  · by_cases h2 : 1099511627776 ≤ base
    · clear hb
      go_enter Tryz.func58, Tryz.ntmps58
      go_wp2
      go_ret2
      exact ⟨rfl, (Below.refl _ _).alloc (Nat.le_refl _) _⟩
    · have h3 : n < 0 := by omega
      clear hb
      go_enter Tryz.func58, Tryz.ntmps58
      go_wp2
      go_ret2
      exact ⟨rfl, (Below.refl _ _).alloc (Nat.le_refl _) _⟩
/-- the rounds' relation -/
def OfRel (base : Int) (N : Nat) (l0 : List UInt8) (w : World) (v i : Value) (wr : World) : Prop :=
  ∃ (rs : List Rec) (nx : Int) (l : List UInt8), i = .int .i64 nx ∧ rs.length ≤ N ∧ 0 ≤ nx ∧ nx ≤ 1099511627776 ∧ l.length ≤ l0.length ∧ RdAt wr w.heap.size (w.heap.size + 1) ⟨l, true⟩ ∧ Recs wr (w.heap.size + 2) v rs ∧ Below w.heap.size w wr ∧
    (ofGo base N base l0 = (ofGo base (N - rs.length) nx l).map fun r => (rs ++ r.1, r.2)) ∧ w.heap.size + 2 ≤ wr.heap.size
theorem Recs.form {w : World} {base : Nat} {v : Value} {rs : List Rec} (h : Recs w base v rs) : ∃ ap cap, v = .slice ap rs.length cap := by
  obtain ⟨ap, cap, h1, _⟩ := h.at
  exact ⟨ap, cap, h1⟩
theorem set_cells {w : World} {b j : Nat} {cs : Array Value} {T : TypeId} {fr : Nat × Nat} (v : Value) (h : w.heap[b]? = some (.cells cs T fr)) : (w.setCell ⟨b, j, none⟩ v).heap[b]? = some (.cells (cs.setIfInBounds j v) T fr) := by
  unfold World.setCell
  simp only [Array.getElem?_modify, if_true, h]
  rfl
theorem alloc_old {w : World} {k : Nat} {x : Obj} (o : Obj) (h : w.heap[k]? = some x) : (w.alloc o).heap[k]? = some x := by
  have hlt := lt_of_heap h
  show (w.heap.push o)[k]? = _
  rw [Array.getElem?_push, if_neg (Nat.ne_of_lt hlt)]; exact h
def rsOf (x : Option (List Rec × List UInt8)) : Option (List Rec) := match x with | some (rs, []) => some rs | _ => none
theorem go_none {base : Int} {n : Nat} {nx : Int} {l : List UInt8} (h : ¬ ((rd1 base l).2.ok = true ∧ (rd1 base l).1.may = true ∧ nx ≤ (rd1 base l).1.o)) : ofGo base (n + 1) nx l = none := by
  rw [ofGo, if_neg h]
theorem go_some {base : Int} {n : Nat} {nx : Int} {l : List UInt8} (h : (rd1 base l).2.ok = true ∧ (rd1 base l).1.may = true ∧ nx ≤ (rd1 base l).1.o) : ofGo base (n + 1) nx l = (ofGo base n ((rd1 base l).1.o + 1) (rd1 base l).2.l).map fun r => ((rd1 base l).1 :: r.1, r.2) := by
  rw [ofGo, if_pos h]
/-- inside a round -/
structure Mid (w wr W : World) (C : Nat) (st : Rd) (o : Int) (k v : ByteArray) (g : Bool) : Prop where
  rd : RdAt W w.heap.size (w.heap.size + 1) st
  cell : W.heap[C]? = some (.cells #[.int .i64 o, .string k, .string v, .bool g] 62 (0, 0))
  old : ∀ j, j < C → j ≠ w.heap.size → j ≠ w.heap.size + 1 → W.heap[j]? = wr.heap[j]?
  below : Below w.heap.size w W
  lt : w.heap.size + 2 ≤ C
section
variable {w wr W W' : World} {C : Nat} {st st' : Rd} {o : Int} {k v : ByteArray} {g : Bool}
theorem Mid.call (h : Mid w wr W C st o k v g) (hr : RdAt W' w.heap.size (w.heap.size + 1) st') (hb : But2 w.heap.size (w.heap.size + 1) W W') : Mid w wr W' C st' o k v g :=
  ⟨hr, (hb.same C (by have := h.lt; omega) (by have := h.lt; omega)).trans h.cell, fun j h1 h2 h3 => (hb.same j h2 h3).trans (h.old j h1 h2 h3), h.below.trans (hb.below (Nat.le_refl _) (by omega)), h.lt⟩
theorem Mid.rdset (h : Mid w wr W C st o k v g) (j : Nat) (u : Value) : RdAt (W.setCell ⟨C, j, none⟩ u) w.heap.size (w.heap.size + 1) st :=
  ⟨(set_other W _ u _ (by have := h.lt; show _ ≠ C; omega)).trans h.rd.s, (set_other W _ u _ (by have := h.lt; show _ ≠ C; omega)).trans h.rd.o, h.rd.ne⟩
theorem Mid.set1 (h : Mid w wr W C st o k v g) (u : ByteArray) : Mid w wr (W.setCell ⟨C, 1, none⟩ (.string u)) C st o u v g :=
  ⟨h.rdset _ _, (set_cells _ h.cell).trans rfl, fun j h1 h2 h3 => (set_other W _ _ j (Nat.ne_of_lt h1)).trans (h.old j h1 h2 h3), h.below.setCell (p := ⟨C, 1, none⟩) (by have := h.lt; show _ ≤ C; omega) _, h.lt⟩
theorem Mid.set2 (h : Mid w wr W C st o k v g) (u : ByteArray) : Mid w wr (W.setCell ⟨C, 2, none⟩ (.string u)) C st o k u g :=
  ⟨h.rdset _ _, (set_cells _ h.cell).trans rfl, fun j h1 h2 h3 => (set_other W _ _ j (Nat.ne_of_lt h1)).trans (h.old j h1 h2 h3), h.below.setCell (p := ⟨C, 2, none⟩) (by have := h.lt; show _ ≤ C; omega) _, h.lt⟩
theorem Mid.set3 (h : Mid w wr W C st o k v g) (u : Bool) : Mid w wr (W.setCell ⟨C, 3, none⟩ (.bool u)) C st o k v u :=
  ⟨h.rdset _ _, (set_cells _ h.cell).trans rfl, fun j h1 h2 h3 => (set_other W _ _ j (Nat.ne_of_lt h1)).trans (h.old j h1 h2 h3), h.below.setCell (p := ⟨C, 3, none⟩) (by have := h.lt; show _ ≤ C; omega) _, h.lt⟩
theorem Mid.clt (h : Mid w wr W C st o k v g) : C < W.heap.size := lt_of_heap h.cell
theorem Mid.grow (h : Mid w wr W C st o k v g) (hb : Below W.heap.size W W') : Mid w wr W' C st o k v g :=
  ⟨⟨(hb.block _ (lt_of_heap h.rd.s)).trans h.rd.s, (hb.block _ (lt_of_heap h.rd.o)).trans h.rd.o, h.rd.ne⟩, (hb.block _ h.clt).trans h.cell, fun j h1 h2 h3 => (hb.block j (Nat.lt_trans h1 h.clt)).trans (h.old j h1 h2 h3), h.below.trans (hb.mono h.below.size), h.lt⟩
theorem Mid.facts (h : Mid w wr W C st o k v g) : (W.cell? ⟨C, 0, none⟩ = some (.int .i64 o) ∧ W.cell? ⟨C, 1, none⟩ = some (.string k) ∧ W.cell? ⟨C, 2, none⟩ = some (.string v) ∧ W.cell? ⟨C, 3, none⟩ = some (.bool g)) ∧ (∀ j, W.frozen? ⟨C, j, none⟩ = false) ∧ W.cell? ⟨w.heap.size + 1, 0, none⟩ = some (.bool st.ok) ∧ W.cell? ⟨w.heap.size, 0, none⟩ = some (.string (str st.l)) :=
  ⟨cells4 h.cell, fun j => Lib.frozen_of_heap h.cell j, (cells1 h.rd.o).1, (cells1 h.rd.s).1⟩
end
set_option maxRecDepth 100000 in
set_option maxHeartbeats 4000000 in
theorem of_in (s : ByteArray) (base : Int) (N : Nat) (w : World) (hs : s.size ≤ 1099511627776) (hb0 : 0 ≤ base) (hb1 : base < 1099511627776) (hN : N ≤ 1048576) :
    Calls Tryz.prog 58 #[.string s, .int .i64 base, .int .i64 N] w (OfPost (rsOf (ofGo base N base s.data.toList)) w) := by
  obtain ⟨l0, rfl⟩ : ∃ l, s = str l := ⟨s.data.toList, (by simp [str])⟩
  rw [str_data]
  rw [str_size] at hs
  obtain ⟨X, hX⟩ : ∃ X, X = ofGo base N base l0 := ⟨_, rfl⟩
  rw [← hX]
  have HX := Lib.hid hX
  clear hX
  have hb0' : ¬ base < 0 := by omega
  have hb1' : ¬ 1099511627776 ≤ base := by omega
  have hN' : ¬ (N : Int) < 0 := by omega
  go_enter Tryz.func58, Tryz.ntmps58
  go_wp2_with fail
  go_loopw [11, 12] (OfRel base N l0 w) (fun v _ _ => match v with | .slice _ k _ => N - k | _ => 0)
  case atStart =>
    have hz : (w.alloc (.cells #[.string (str l0)] 9)).heap.size = w.heap.size + 1 := by show (w.heap.push _).size = _; simp
    refine ⟨[], base, l0, rfl, by simp, hb0, by omega, Nat.le_refl _, ⟨?_, ?_, by omega⟩, Recs.nil _ _, ?_, by simp, ?_⟩
    · have := heap_alloc_last w (.cells #[.string (str l0)] 9)
      show ((w.heap.push _).push _)[w.heap.size]? = _
      rw [Array.getElem?_push, if_neg (by simp)]
      exact this
    · rw [← hz]; exact heap_alloc_last _ _
    · exact ((Below.refl _ _).alloc (Nat.le_refl _) _).alloc (le_alloc (Nat.le_refl _) _) _
    · show _ ≤ ((w.heap.push _).push _).size; simp
  case round =>
    obtain ⟨rs, nx, l, rfl, hrs, hnx0, hnx1, hll, hrd, hrecs, hbw, hgo, hsz⟩ := hrel
    obtain ⟨ap, cap, rfl⟩ := hrecs.form
    have HRD := Lib.hid hrd
    have HRC := Lib.hid hrecs
    have HW := Lib.hid hbw
    have HGO := Lib.hid hgo
    have HSZ := Lib.hid hsz
    have HLL := Lib.hid hll
    clear hrd hrecs hbw hgo hsz hll
    by_cases hlt : rs.length < N
    · have hlt' : (rs.length : Int) < (N : Int) := by omega
      go_wp2_with fail
      refine (of_num wr _ _ ⟨l, true⟩ 1099511627776 HRD.out (by have := HLL.out; show l.length ≤ _; omega)).mono ?_
      rintro e w1 ⟨rfl, hr1, hb1'⟩
      have ha0 := stNum_pos 1099511627776 ⟨l, true⟩
      have ha1 := stNum_le 1099511627776 ⟨l, true⟩ (by decide)
      have hl1 := stNum_len 1099511627776 ⟨l, true⟩
      have hrd1 : (rd1 base l).1.o = base + stNumV 1099511627776 ⟨l, true⟩ := rfl
      generalize hA : stNumV 1099511627776 ⟨l, true⟩ = A at *
      generalize hS1 : stNumR 1099511627776 ⟨l, true⟩ = st1 at *
      have HR1 := Lib.hid hr1
      have HB1 := Lib.hid hb1'
      have HA := Lib.hid hA
      have HS1 := Lib.hid hS1
      have HL1 := Lib.hid hl1
      have HO := Lib.hid hrd1
      clear hr1 hb1' hA hS1 hl1 hrd1
      go_wp2_with fail
      have m1 : Mid w wr (w1.alloc (.cells #[.int .i64 (base + A), .string ⟨#[]⟩, .string ⟨#[]⟩, .bool false] 62)) w1.heap.size st1 (base + A) ⟨#[]⟩ ⟨#[]⟩ false := by
        have hs1 := HB1.out.size
        have hs0 := HSZ.out
        refine ⟨⟨alloc_old _ HR1.out.s, alloc_old _ HR1.out.o, HR1.out.ne⟩, heap_alloc_last _ _, fun j h1 h2 h3 => ?_, ((HW.out.trans (HB1.out.below (Nat.le_refl _) (by omega))).alloc (by omega) _), by omega⟩
        show (w1.heap.push _)[j]? = _
        rw [Array.getElem?_push, if_neg (by omega)]
        exact HB1.out.same j h2 h3
      have hC : w1.heap.size = wr.heap.size := HB1.out.size
      have HC := Lib.hid hC
      have M1 := Lib.hid m1
      clear m1 hC
      refine (of_num _ _ _ st1 64 M1.out.rd (by have := HLL.out; have := HL1.out; omega)).mono ?_
      rintro e w2 ⟨rfl, hr2, hb2⟩
      have hb0 := stNum_pos 64 st1
      have hl2 := stNum_len 64 st1
      generalize hB : stNumV 64 st1 = Bn at *
      generalize hS2 : stNumR 64 st1 = st2 at *
      have M2 := Lib.hid (M1.out.call hr2 hb2)
      have HB := Lib.hid hB
      have HS2 := Lib.hid hS2
      have HL2 := Lib.hid hl2
      clear hr2 hb2 hB hS2 hl2
      go_wp2_with fail
      refine (of_text _ _ _ st2 Bn M2.out.rd hb0).mono ?_
      rintro e w3 ⟨rfl, hr3, hb3⟩
      have hl3 := stText_len Bn st2
      generalize hK : stTextV Bn st2 = K at *
      generalize hS3 : stTextR Bn st2 = st3 at *
      have m3 := M2.out.call hr3 hb3
      have M3 := Lib.hid m3
      have M4 := Lib.hid (m3.set1 (str K))
      have HK := Lib.hid hK
      have HS3 := Lib.hid hS3
      have HL3 := Lib.hid hl3
      obtain ⟨⟨c0, c1, c2, c3⟩, cf, _, _⟩ := m3.facts
      clear hr3 hb3 hK hS3 hl3 m3
      go_wp2_with fail
      refine (of_num _ _ _ st3 4097 M4.out.rd (by have := HLL.out; have h1 := HL1.out; have h2 := HL2.out; have h3 := HL3.out; omega)).mono ?_
      clear c0 c1 c2 c3 cf
      rintro e w4 ⟨rfl, hr4, hb4⟩
      have hn0 := stNum_pos 4097 st3
      have hn1 := stNum_le 4097 st3 (by decide)
      have hl4 := stNum_len 4097 st3
      generalize hD : stNumV 4097 st3 = D at *
      generalize hS4 : stNumR 4097 st3 = st4 at *
      have m4 := M4.out.call hr4 hb4
      have M5 := Lib.hid m4
      have HD := Lib.hid hD
      have HS4 := Lib.hid hS4
      have HL4 := Lib.hid hl4
      obtain ⟨⟨c0, c1, c2, c3⟩, cf, _, _⟩ := m4.facts
      have M5g := Lib.hid (m4.set3 true)
      clear hr4 hb4 hD hS4 hl4 m4
      by_cases hd : D = 0
      · have HD0 := Lib.hid hd
        have hd1 : (D == 0) = true := beq_iff_eq.2 hd
        clear hd
        go_upto_region 15 with (fail)
        clear c0 c1 c2 c3 cf
        generalize hw5 : w4.setCell ⟨w1.heap.size, 3, none⟩ (.bool true) = w5 at M5g ⊢
        clear hw5
        have hrdv : rd1 base l = (⟨base + A, str K, ⟨#[]⟩, true⟩, st4) := by
          unfold rd1
          simp only [HA.out, HS1.out, HB.out, HS2.out, HK.out, HS3.out, HD.out, HS4.out, HD0.out, if_true, decide_true]
        have hNm : N - rs.length = (N - rs.length - 1) + 1 := by omega
        have HQD := Lib.hid hrdv
        have HNM := Lib.hid hNm
        clear hrdv hNm
        obtain ⟨⟨c0, c1, c2, c3⟩, cf, ko, _⟩ := M5g.out.facts
        cases hok : st4.ok with
        | false =>
          have hno : rsOf X = none := by
            rw [HX.out, HGO.out, HNM.out, go_none (by rw [HQD.out]; simp only [hok]; exact fun h => by cases h.1)]; rfl
          have HNO := Lib.hid hno
          rw [hok] at ko
          clear hno hok
          go_wp2
          go_ret2
          exact .inr ⟨HNO.out, rfl, M5g.out.below⟩
        | true =>
          rw [hok] at ko
          have HOK := Lib.hid hok
          clear hok
          go_wp2_with fail
          refine (check _ _ _ _ _).mono ?_
          rintro e w6 ⟨rfl, hb6⟩
          have m6 := M5g.out.grow hb6
          have M6 := Lib.hid m6
          clear c0 c1 c2 c3 cf ko hb6
          obtain ⟨⟨c0, c1, c2, c3⟩, cf, _, _⟩ := m6.facts
          clear m6
          cases hmay : mayRec (base + A) (str K) ⟨#[]⟩ true with
          | false =>
            rw [chk_no rfl]
            have hno : rsOf X = none := by
              rw [HX.out, HGO.out, HNM.out, go_none (by rw [HQD.out]; simp only [Rec.may, hmay]; exact fun h => by cases h.2.1)]; rfl
            have HNO := Lib.hid hno
            clear hno hmay
            go_wp2
            go_ret2
            exact .inr ⟨HNO.out, rfl, M6.out.below⟩
          | true =>
            rw [chk_yes rfl]
            by_cases hon : base + A < nx
            · have hno : rsOf X = none := by
                rw [HX.out, HGO.out, HNM.out, go_none (by rw [HQD.out]; exact fun h => by have := h.2.2; simp only at this; omega)]; rfl
              have HNO := Lib.hid hno
              clear hno hmay
              go_wp2
              go_ret2
              exact .inr ⟨HNO.out, rfl, M6.out.below⟩
            · have hgs : ofGo base N base l0 = (ofGo base (N - (rs ++ [(⟨base + A, str K, ⟨#[]⟩, true⟩ : Rec)]).length) (base + A + 1) st4.l).map fun r => (rs ++ [(⟨base + A, str K, ⟨#[]⟩, true⟩ : Rec)] ++ r.1, r.2) := by
                rw [HGO.out, HNM.out, go_some (base := base) (nx := nx) (l := l) (by rw [HQD.out]; exact ⟨HOK.out, by simp only [Rec.may]; exact hmay, by simp only; omega⟩), HQD.out, Option.map_map]
                rw [List.length_append, List.length_singleton, show N - (rs.length + 1) = N - rs.length - 1 from by omega]
                congr 1
                funext r
                simp
              have HGS := Lib.hid hgs
              have HMAY := Lib.hid hmay
              have hob : base + A < 1099511627776 := by
                simp only [mayRec, Bool.and_eq_true, decide_eq_true_eq] at hmay
                exact hmay.1.1.1.2
              clear hgs hmay
              have hrc6 : Recs w6 (w.heap.size + 2) (.slice ap rs.length cap) rs := HRC.out.same (fun k hk => by
                have := World.ownsRow.lt HRC.out k hk
                have := HC.out
                exact M6.out.old k (by omega) (by omega) (by omega))
              have hs6 : w.heap.size + 2 ≤ w6.heap.size := by have := M6.out.lt; have := M6.out.clt; omega
              have HRC6 := Lib.hid (World.ownsRow.alloc hrc6 (.cells #[.int .i64 (base + A), .string (str K), .string ⟨#[]⟩, .bool true] 62))
              have HS6 := Lib.hid hs6
              clear hrc6 hs6
              go_wp2_with (at_builtin; refine wpList_append_rec rfl _ _ rfl (w.heap.size + 2) _ rs rfl HRC6.out w6.heap.size ⟨base + A, str K, ⟨#[]⟩, true⟩ rfl (heap_alloc_last _ _) (by omega) (le_alloc HS6.out _) ?_; intro v' w7 hB7 hg7 hv7)
              have hown := World.ownsRow.lt HRC.out
              have HB7 := Lib.hid hB7
              have HG7 := Lib.hid hg7
              clear hB7 hg7 hv7
              obtain ⟨ap', cap', rfl⟩ := HB7.out.form
              go_wp2
              go_roundw
              case rel =>
                refine ⟨rs ++ [⟨base + A, str K, ⟨#[]⟩, true⟩], base + A + 1, st4.l, by go_num, by simp; omega, by omega, by omega, ?_, ⟨?_, ?_, by omega⟩, HB7.out, ?_, HGS.out, ?_⟩
                · have h0 := HLL.out; have h1 := HL1.out; have h2 := HL2.out; have h3 := HL3.out; have h4 := HL4.out; omega
                · have := (alloc_old (.cells #[.int .i64 (base + A), .string (str K), .string ⟨#[]⟩, .bool true] 62) M6.out.rd.s)
                  rw [HG7.out.block _ (lt_of_heap this) (fun e => by have := hown _ e.symm; omega)]
                  exact this
                · have := (alloc_old (.cells #[.int .i64 (base + A), .string (str K), .string ⟨#[]⟩, .bool true] 62) M6.out.rd.o)
                  rw [HG7.out.block _ (lt_of_heap this) (fun e => by have := hown _ e.symm; omega), this, HOK.out]
                · exact (M6.out.below.alloc (by have := HS6.out; omega) _).grown HG7.out (le_alloc (by have := HS6.out; omega) _) (fun k hk => by have := hown k hk; omega)
                · exact Nat.le_trans (le_alloc HS6.out _) HG7.out.size
              case measure => simp; omega
      · have HD0 := Lib.hid hd
        have hd1 : (D == 0) = false := beq_eq_false_iff_ne.2 hd
        have hdp : 0 ≤ D - 1 := by omega
        clear hd
        go_wp2_with fail
        refine (of_text _ _ _ st4 (D - 1) M5.out.rd hdp).mono ?_
        rintro e w5 ⟨rfl, hr5, hb5⟩
        clear c0 c1 c2 c3 cf
        have hl5 := stText_len (D - 1) st4
        generalize hV : stTextV (D - 1) st4 = V at *
        generalize hS5 : stTextR (D - 1) st4 = st5 at *
        have m5 := M5.out.call hr5 hb5
        have M5v := Lib.hid (m5.set2 (str V))
        have HV := Lib.hid hV
        have HS5 := Lib.hid hS5
        have HL5 := Lib.hid hl5
        obtain ⟨⟨c0, c1, c2, c3⟩, cf, _, _⟩ := m5.facts
        clear hr5 hb5 hV hS5 hl5 m5
        go_upto_region 15 with (fail)
        clear c0 c1 c2 c3 cf
        generalize hw6 : w5.setCell ⟨w1.heap.size, 2, none⟩ (.string (str V)) = w5b at M5v ⊢
        clear hw6
        have hrdv : rd1 base l = (⟨base + A, str K, (str V), false⟩, st5) := by
          unfold rd1
          simp only [HA.out, HS1.out, HB.out, HS2.out, HK.out, HS3.out, HD.out, HS4.out, if_neg HD0.out, HV.out, HS5.out, decide_eq_false HD0.out]
        have hNm : N - rs.length = (N - rs.length - 1) + 1 := by omega
        have HQD := Lib.hid hrdv
        have HNM := Lib.hid hNm
        clear hrdv hNm
        obtain ⟨⟨c0, c1, c2, c3⟩, cf, ko, _⟩ := M5v.out.facts
        cases hok : st5.ok with
        | false =>
          have hno : rsOf X = none := by
            rw [HX.out, HGO.out, HNM.out, go_none (by rw [HQD.out]; simp only [hok]; exact fun h => by cases h.1)]; rfl
          have HNO := Lib.hid hno
          rw [hok] at ko
          clear hno hok
          go_wp2
          go_ret2
          exact .inr ⟨HNO.out, rfl, M5v.out.below⟩
        | true =>
          rw [hok] at ko
          have HOK := Lib.hid hok
          clear hok
          go_wp2_with fail
          refine (check _ _ _ _ _).mono ?_
          rintro e w6 ⟨rfl, hb6⟩
          have m6 := M5v.out.grow hb6
          have M6 := Lib.hid m6
          clear c0 c1 c2 c3 cf ko hb6
          obtain ⟨⟨c0, c1, c2, c3⟩, cf, _, _⟩ := m6.facts
          clear m6
          cases hmay : mayRec (base + A) (str K) (str V) false with
          | false =>
            rw [chk_no rfl]
            have hno : rsOf X = none := by
              rw [HX.out, HGO.out, HNM.out, go_none (by rw [HQD.out]; simp only [Rec.may, hmay]; exact fun h => by cases h.2.1)]; rfl
            have HNO := Lib.hid hno
            clear hno hmay
            go_wp2
            go_ret2
            exact .inr ⟨HNO.out, rfl, M6.out.below⟩
          | true =>
            rw [chk_yes rfl]
            by_cases hon : base + A < nx
            · have hno : rsOf X = none := by
                rw [HX.out, HGO.out, HNM.out, go_none (by rw [HQD.out]; exact fun h => by have := h.2.2; simp only at this; omega)]; rfl
              have HNO := Lib.hid hno
              clear hno hmay
              go_wp2
              go_ret2
              exact .inr ⟨HNO.out, rfl, M6.out.below⟩
            · have hgs : ofGo base N base l0 = (ofGo base (N - (rs ++ [(⟨base + A, str K, (str V), false⟩ : Rec)]).length) (base + A + 1) st5.l).map fun r => (rs ++ [(⟨base + A, str K, (str V), false⟩ : Rec)] ++ r.1, r.2) := by
                rw [HGO.out, HNM.out, go_some (base := base) (nx := nx) (l := l) (by rw [HQD.out]; exact ⟨HOK.out, by simp only [Rec.may]; exact hmay, by simp only; omega⟩), HQD.out, Option.map_map]
                rw [List.length_append, List.length_singleton, show N - (rs.length + 1) = N - rs.length - 1 from by omega]
                congr 1
                funext r
                simp
              have HGS := Lib.hid hgs
              have HMAY := Lib.hid hmay
              have hob : base + A < 1099511627776 := by
                simp only [mayRec, Bool.and_eq_true, decide_eq_true_eq] at hmay
                exact hmay.1.1.1.2
              clear hgs hmay
              have hrc6 : Recs w6 (w.heap.size + 2) (.slice ap rs.length cap) rs := HRC.out.same (fun k hk => by
                have := World.ownsRow.lt HRC.out k hk
                have := HC.out
                exact M6.out.old k (by omega) (by omega) (by omega))
              have hs6 : w.heap.size + 2 ≤ w6.heap.size := by have := M6.out.lt; have := M6.out.clt; omega
              have HRC6 := Lib.hid (World.ownsRow.alloc hrc6 (.cells #[.int .i64 (base + A), .string (str K), .string (str V), .bool false] 62))
              have HS6 := Lib.hid hs6
              clear hrc6 hs6
              go_wp2_with (at_builtin; refine wpList_append_rec rfl _ _ rfl (w.heap.size + 2) _ rs rfl HRC6.out w6.heap.size ⟨base + A, str K, (str V), false⟩ rfl (heap_alloc_last _ _) (by omega) (le_alloc HS6.out _) ?_; intro v' w7 hB7 hg7 hv7)
              have hown := World.ownsRow.lt HRC.out
              have HB7 := Lib.hid hB7
              have HG7 := Lib.hid hg7
              clear hB7 hg7 hv7
              obtain ⟨ap', cap', rfl⟩ := HB7.out.form
              go_wp2
              go_roundw
              case rel =>
                refine ⟨rs ++ [⟨base + A, str K, (str V), false⟩], base + A + 1, st5.l, by go_num, by simp; omega, by omega, by omega, ?_, ⟨?_, ?_, by omega⟩, HB7.out, ?_, HGS.out, ?_⟩
                · have h0 := HLL.out; have h1 := HL1.out; have h2 := HL2.out; have h3 := HL3.out; have h4 := HL4.out; have h5 := HL5.out; omega
                · have := (alloc_old (.cells #[.int .i64 (base + A), .string (str K), .string (str V), .bool false] 62) M6.out.rd.s)
                  rw [HG7.out.block _ (lt_of_heap this) (fun e => by have := hown _ e.symm; omega)]
                  exact this
                · have := (alloc_old (.cells #[.int .i64 (base + A), .string (str K), .string (str V), .bool false] 62) M6.out.rd.o)
                  rw [HG7.out.block _ (lt_of_heap this) (fun e => by have := hown _ e.symm; omega), this, HOK.out]
                · exact (M6.out.below.alloc (by have := HS6.out; omega) _).grown HG7.out (le_alloc (by have := HS6.out; omega) _) (fun k hk => by have := hown k hk; omega)
                · exact Nat.le_trans (le_alloc HS6.out _) HG7.out.size
              case measure => simp; omega
    · obtain rfl : rs.length = N := by omega
      have hlt' : ¬ (rs.length : Int) < (rs.length : Int) := by omega
      have hX : X = some (rs, l) := by
        rw [HX.out, HGO.out, Nat.sub_self]; simp [ofGo]
      obtain ⟨x0, x1⟩ := cells1 HRD.out.s
      simp only at x0
      have HXX := Lib.hid hX
      clear hX hlt
      cases l with
      | nil =>
        have he : (str ([] : List UInt8)).toList.isEmpty = true := by rw [ByteArray.toList_eq, str_data]; rfl
        have he2 : (str ([] : List UInt8)).toList = [] := by rw [ByteArray.toList_eq, str_data]
        go_wp2
        go_ret2
        obtain ⟨ap', cap', h1, h2, h3⟩ := HRC.out.at
        cases h1
        exact .inl ⟨rs, ap, cap, by rw [HXX.out]; rfl, rfl, h2, h3, HW.out, fun a ha => by
          have := World.ownsRow.lt HRC.out a.block (by rw [ha]; rfl)
          omega⟩
      | cons b l =>
        have he2 : ¬ (str (b :: l)).toList = [] := by rw [ByteArray.toList_eq, str_data]; simp
        have he : (str (b :: l)).toList.isEmpty = false := by rw [ByteArray.toList_eq, str_data]; rfl
        go_wp2
        go_ret2
        exact .inr ⟨by rw [HXX.out]; rfl, rfl, HW.out⟩
theorem of_all (s : ByteArray) (base n : Int) (w : World) (hs : s.size ≤ 1099511627776) (hN : n ≤ 1048576) :
    Calls Tryz.prog 58 #[.string s, .int .i64 base, .int .i64 n] w (OfPost (ofRecs s.data.toList base n) w) := by
  by_cases hb : base < 0 ∨ 1099511627776 ≤ base ∨ n < 0
  · refine (of_out s base n w hb).mono ?_
    rintro e w' ⟨rfl, hb'⟩
    exact .inr ⟨by unfold ofRecs; rw [if_pos hb], rfl, hb'⟩
  · have h := of_in s base n.toNat w hs (by omega) (by omega) (by omega)
    rw [show ((n.toNat : Nat) : Int) = n from by omega] at h
    have e : ofRecs s.data.toList base n = rsOf (ofGo base n.toNat base s.data.toList) := by unfold ofRecs rsOf; rw [if_neg hb]
    rw [e]; exact h
end Go.Proofs.YtcioejacijkbcaaGreatDoor.Rc
