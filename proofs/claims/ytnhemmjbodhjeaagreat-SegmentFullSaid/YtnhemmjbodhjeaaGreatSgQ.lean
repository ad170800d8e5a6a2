/- the segment law: a segment of its own; awake. -/
import Derived.Test.YtnhemmjbodhjeaaGreatSgO
namespace Go.Proofs.YtnhemmjbodhjeaaGreat.Sg
open Go.RowKit Go.Maps Go.ChangeMaps Go.WideMaps Go.Proofs.YtnhemmjbodhjeaaGreat.Vd Go.Proofs.YtnhemmjbodhjeaaGreat.Rc Go.Proofs.YtnhemmjbodhjeaaGreat.Ba
set_option linter.unusedVariables false
/-- a segment and a disk that were made behind w0 -/
structure SegOwn (w0 w : World) (bs bd bm room : Nat) (name : ByteArray) (base : Nat) (fs : List Fil) (xs : List Bat) (mv : Value) : Prop where
  at' : SegAt w bs bd bm room name base fs xs mv
  below : Below w0.heap.size w0 w
  bs : w0.heap.size ≤ bs
  disk : ∀ k, DiskB bd bm fs k → w0.heap.size ≤ k
  mv : ∀ k, mv.ownBlock = some k → w0.heap.size ≤ k
theorem SegOwn.more {w0 w w' : World} {bs bd bm room : Nat} {name : ByteArray} {base : Nat} {fs : List Fil} {xs : List Bat} {mv : Value} (h : SegOwn w0 w bs bd bm room name base fs xs mv) (hb : Below w.heap.size w w') : SegOwn w0 w' bs bd bm room name base fs xs mv :=
  ⟨h.at'.below hb, h.below.trans (hb.mono h.below.size), h.bs, h.disk, h.mv⟩
theorem own_append {w0 w : World} {bs bd bm room : Nat} {name : ByteArray} {base : Nat} {fs : List Fil} {xs : List Bat} {mv : Value} (h : SegOwn w0 w bs bd bm room name base fs xs mv) (x : Bat) (hx : x.Ok) (hb : x.b = endOf base xs) (hr : (text xs).length + x.l.length ≤ room) :
    Calls Tryz.prog 20 #[.pointer (some ⟨bs, 0, none⟩), .string (Bt.str x.l)] w fun e w' => e = .returned (.int .i64 0) ∧ ∃ fs' mv', SegOwn w0 w' bs bd bm room name base fs' (xs ++ [x]) mv' := by
  refine (seg_append h.at' x hx hb (Bt.str x.l) (Bt.str_data _) (by rw [Bt.str_size]; exact hr)).mono ?_
  rintro e w' ⟨rfl, fs', mv', hS, hT, hN⟩
  have hF : ∀ k, (k = bs ∨ mv.ownBlock = some k ∨ DiskB bd bm fs k) → w0.heap.size ≤ k := by
    rintro k (rfl | hk | hk)
    · exact h.bs
    · exact h.mv k hk
    · exact h.disk k hk
  refine ⟨rfl, fs', mv', hS, h.below.trans (hT.below h.below.size hF), h.bs, ?_, ?_⟩
  · intro k hk
    rcases hN k (.inl hk) with h1 | h1 | h1
    · exact h.disk k h1
    · exact h.mv k h1
    · exact Nat.le_trans h.below.size h1
  · intro k hk
    rcases hN k (.inr hk) with h1 | h1 | h1
    · exact h.disk k h1
    · exact h.mv k h1
    · exact Nat.le_trans h.below.size h1
theorem own_begun (w : World) (base : Nat) (hb : base ≤ 1099511627520) :
    Calls Tryz.prog 21 #[.int .i64 base] w fun e w' => ∃ bd bm b, e = .returned (.tuple #[.pointer (some ⟨bd, 0, none⟩), .pointer (some ⟨b, 0, none⟩), .bool true]) ∧
      SegOwn w w' b bd bm 4194304 { data := #[115, 101, 103] } base [] [] (.slice none 0 0) := by
  refine (begun w base hb).mono ?_
  rintro e w' ⟨bd, bm, b, rfl, h1, h2, h3, h4⟩
  exact ⟨bd, bm, b, rfl, h2, h3, h1, h4, fun k hk => by cases hk⟩
/-- a batch that has an offset -/
theorem own_batch {w0 w : World} {bs bd bm room : Nat} {name : ByteArray} {base : Nat} {fs : List Fil} {xs : List Bat} {mv : Value} (h : SegOwn w0 w bs bd bm room name base fs xs mv) (o : Nat) (h0 : base ≤ o) (h1 : o < endOf base xs) :
    Calls Tryz.prog 25 #[.pointer (some ⟨bs, 0, none⟩), .int .i64 o] w fun e w' => BatchPost xs base o e ∧ Below w.heap.size w w' := by
  rcases h.at'.file with ⟨_, rfl⟩ | ⟨f, rfl, hn, hf⟩
  · exfalso; simp [endOf] at h1; omega
  · subst hn
    exact batch_in xs h.at'.chain f (by simp) hf h.at'.disk h.at'.seg o h0 h1
theorem batch_one {x : Bat} {base o : Nat} {e : Ending} (h : BatchPost [x] base o e) : e = .returned (.tuple #[.string (Bt.str x.l), .int .i64 0]) := by
  obtain ⟨k, hk, _, _, he⟩ := h
  obtain rfl : k = 0 := by simpa using hk
  exact he
theorem b27 : bits .and .i64 2 7 = ((2 : Nat) : Int) := rfl
theorem b07 : bits .and .i64 0 7 = ((0 : Nat) : Int) := rfl
theorem b0255 : bits .and .i64 0 255 = ((0 : Nat) : Int) := rfl
theorem b0w : bits .and .i64 0 65535 = ((0 : Nat) : Int) := rfl
set_option maxRecDepth 100000 in
theorem awake (w : World) : Calls Tryz.prog 11 #[] w fun e w' => e = .returned (.bool true) ∧ Below w.heap.size w w' := by
  obtain ⟨x, hx⟩ : ∃ x, x = made 5 2 0 0 0 ⟨#[]⟩ := ⟨_, rfl⟩
  have hok : x.Ok := by rw [hx]; exact made_ok 5 2 0 0 0 ⟨#[]⟩ (by decide) (by decide) (by decide) (by decide) (by decide)
  have hxb : x.b = 5 := by rw [hx]; rfl
  have hxc : x.c = 3 := by rw [hx]; rfl
  have hm := fun w => made_walk w 2 0 0 0 ⟨#[]⟩ 5 2 0 0 0 b27 (by decide) b07 (by decide) b0255 (by decide) b0w (by decide) (by decide) (by decide)
  rw [← hx] at hm
  have HM := Lib.hid hm
  clear hm
  have HX := Lib.hid hok
  have HXB := Lib.hid hxb
  have HXC := Lib.hid hxc
  clear hok hxb hxc hx
  go_enter Tryz.func11, Tryz.ntmps11
  go_wp2_with fail
  refine (own_begun w 5 (by decide)).mono ?_
  rintro e w1 ⟨bd, bm, b, rfl, hS⟩
  have HS := Lib.hid hS
  clear hS
  go_wp2_with fail
  refine (HM.out w1).mono ?_
  rintro e w2 ⟨rfl, hb2⟩
  have HS2 := Lib.hid (HS.out.more hb2)
  clear hb2
  go_wp2_with fail
  refine (own_append HS2.out x HX.out (by rw [HXB.out]; rfl) (by have := HX.out.len; have : (text []).length = 0 := rfl; omega)).mono ?_
  rintro e w3 ⟨rfl, fs, mv, hS⟩
  have HS3 := Lib.hid hS
  clear hS
  go_wp2_with fail
  refine (append_order x HS3.out.at'.seg HX.out (Bt.str x.l) (Bt.str_data _) (by rw [HXB.out]; show 5 ≠ endOf 5 [x]; simp [endOf, HXC.out])).mono ?_
  rintro e w4 ⟨rfl, hb4⟩
  have HS4 := Lib.hid (HS3.out.more hb4)
  clear hb4
  go_wp2_with fail
  refine (own_batch HS4.out 7 (by decide) (by show 7 < endOf 5 [x]; simp [endOf, HXC.out])).mono ?_
  rintro e w5 ⟨hB, hb5⟩
  obtain rfl := batch_one hB
  have HS5 := Lib.hid (HS4.out.more hb5)
  clear hb5 hB
  go_wp2_with fail
  refine (end_yes HS5.out.at'.seg).mono ?_
  rintro e w6 ⟨rfl, rfl⟩
  rw [show endOf 5 ([] ++ [x]) = 8 from by show endOf 5 [x] = 8; simp [endOf, HXC.out]]
  go_wp2_with fail
  refine (base_yes HS5.out.at'.seg).mono ?_
  rintro e w6 ⟨rfl, rfl⟩
  go_wp2_with fail
  refine (len_yes HS5.out.at'.seg).mono ?_
  rintro e w6 ⟨rfl, rfl⟩
  go_wp2_with fail
  refine (size_yes HS5.out.at'.seg).mono ?_
  rintro e w6 ⟨rfl, rfl⟩
  rw [show (text ([] ++ [x])).length = (Bt.str x.l).size from by rw [Bt.str_size]; simp [text]]
  go_wp2
  go_ret
  exact ⟨rfl, HS5.out.below⟩
end Go.Proofs.YtnhemmjbodhjeaaGreat.Sg
