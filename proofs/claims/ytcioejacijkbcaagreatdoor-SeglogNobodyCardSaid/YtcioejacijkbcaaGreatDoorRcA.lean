/- record: number, Check. -/
import Derived.Test.YtcioejacijkbcaaGreatDoorSbA
import Derived.Test.YtcioejacijkbcaaGreatDoorShelf
namespace Go.Proofs.YtcioejacijkbcaaGreatDoor.Rc
open Go.RowKit Go.Maps Go.ChangeMaps Go.WideMaps Go.Proofs.YtcioejacijkbcaaGreatDoor.Su Go.Proofs.YtcioejacijkbcaaGreatDoor.Bt Go.Proofs.YtcioejacijkbcaaGreatDoor.Sb
set_option linter.unusedVariables false
theorem lt_of_heap {w : World} {k : Nat} {o : Obj} (h : w.heap[k]? = some o) : k < w.heap.size := by
  rcases Nat.lt_or_ge k w.heap.size with h' | h'
  · exact h'
  · rw [Array.getElem?_eq_none h'] at h; cases h
theorem bld_at {w w' : World} {B b : Nat} {p : Value} {l : List Value} (h : Lib.BuilderAt 131 5 B b p l w) (hb : Below w.heap.size w w') : Lib.BuilderAt 131 5 B b p l w' := by
  obtain ⟨hB, v, hbk, hown, hne⟩ := h
  refine ⟨hB, v, (hb.block _ (lt_of_heap hbk)).trans hbk, ⟨hown.1, ?_⟩, hne⟩
  rcases hown.2 with h2 | ⟨g, cap, cur, rfl, hg, hh, h5⟩
  · exact .inl h2
  · exact .inr ⟨g, cap, cur, rfl, hg, (hb.block _ (lt_of_heap hh)).trans hh, h5⟩
theorem Bld_below {w w' : World} {B b : Nat} {l : List UInt8} (h : Bld w B b l) (hb : Below w.heap.size w w') : Bld w' B b l :=
  h.elim (fun x => .inl (bld_at x hb)) (fun x => .inr (bld_at x hb))
theorem Kept_below {w w' : World} {b : Nat} (hb : Below w.heap.size w w') : Kept b w w' := fun k cs T fr hk _ _ => hb.block k (lt_of_heap hk)
set_option maxRecDepth 100000 in
set_option maxHeartbeats 4000000 in
theorem number (B b : Nat) (l : List UInt8) (n : Nat) (hn : n < 2 ^ 63) (w : World) (h : Bld w B b l) (hlen : l.length + (vnum n).length ≤ 140737488351232) (hBw : B ≤ w.heap.size) :
    Calls Tryz.prog 195 #[.pointer (some ⟨b, 0, none⟩), .int .i64 n] w fun e w' => e = .returned (.tuple #[]) ∧ Bld w' B b (l ++ vnum n) ∧ Below B w w' ∧ Kept b w w' := by
  have HN := Lib.hid hn
  have HL := Lib.hid hlen
  have HB := Lib.hid h
  clear hn hlen h
  go_enter Tryz.func195, Tryz.ntmps195
  go_wp2_with fail
  refine (putVar _ n HN.out).mono ?_
  rintro e w1 ⟨rfl, hb1⟩
  have HB1 := Lib.hid (Bld_below HB.out hb1)
  have HBW := Lib.hid hb1
  clear hb1
  go_wp2_with fail
  refine (writeString B b l (str (vnum n)) w1 HB1.out (by rw [str_size]; exact HL.out) (Nat.le_trans hBw HBW.out.size)).mono ?_
  rintro e w2 ⟨rfl, h2, hb2, hk2⟩
  rw [str_data] at h2
  have H2 := Lib.hid h2
  have HB2 := Lib.hid hb2
  have HK2 := Lib.hid hk2
  clear h2 hb2 hk2
  go_wp2
  go_end0
  exact ⟨rfl, H2.out, (HBW.out.mono hBw).trans HB2.out, (Kept_below HBW.out).trans HK2.out⟩
/-- may a record be? -/
def mayRec (o : Int) (k v : ByteArray) (g : Bool) : Bool := decide (0 ≤ o) && decide (o < 1099511627776) && decide (k.size ≤ 64) && decide (v.size ≤ 4096) && (!g || decide (v.size = 0))
def chk (b : Bool) (e : Int) : Int := if b = true then 0 else e
theorem chk_yes {b : Bool} {e : Int} (h : b = true) : chk b e = 0 := by simp [chk, h]
theorem chk_no {b : Bool} {e : Int} (h : b = false) : chk b e = e := by simp [chk, h]
theorem isEmpty_size (v : ByteArray) : v.toList.isEmpty = decide (v.size = 0) := by
  rw [ByteArray.toList_eq]
  have h : v.size = v.data.toList.length := by rw [Array.length_toList]; rfl
  rw [h]
  cases v.data.toList <;> simp
set_option maxRecDepth 100000 in
theorem check (o : Int) (k v : ByteArray) (g : Bool) (w : World) :
    Calls Tryz.prog 99 #[.agg #[.int .i64 o, .string k, .string v, .bool g]] w fun e w' => e = .returned (.int .i64 (chk (mayRec o k v g) 90)) ∧ Below w.heap.size w w' := by
  obtain ⟨m, hm⟩ : ∃ m, m = mayRec o k v g := ⟨_, rfl⟩
  rw [← hm]
  have HM := Lib.hid hm
  clear hm
  go_enter Tryz.func99, Tryz.ntmps99
  go_wp2_with fail
  all_goals
    go_ret
    refine ⟨?_, (Below.refl _ _).alloc (Nat.le_refl _) _⟩
    have hm := HM.out
    simp only [mayRec] at hm
    have he := isEmpty_size v
    clear HM
    first
      | (have hy : m = true := by grind
         rw [chk_yes hy]; rfl)
      | (have hy : m = false := by grind
         rw [chk_no hy]; rfl)
end Go.Proofs.YtcioejacijkbcaaGreatDoor.Rc
