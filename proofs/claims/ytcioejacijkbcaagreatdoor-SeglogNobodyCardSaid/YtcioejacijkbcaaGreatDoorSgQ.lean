/- the segment law: a segment of its own; awake. -/
import Derived.Test.YtcioejacijkbcaaGreatDoorSgO
namespace Go.Proofs.YtcioejacijkbcaaGreatDoor.Sg
open Go.RowKit Go.Maps Go.ChangeMaps Go.WideMaps Go.Proofs.YtcioejacijkbcaaGreatDoor.Vd Go.Proofs.YtcioejacijkbcaaGreatDoor.Rc Go.Proofs.YtcioejacijkbcaaGreatDoor.Ba
set_option linter.unusedVariables false
/-- a segment and a disk that were made behind w0 -/
structure SegOwn (w0 w : World) (bs bd bm room : Nat) (name : ByteArray) (base : Nat) (fs : List Fil) (xs : List Bat) (mv : Value) : Prop where
  at' : SegAt w bs bd bm room name base fs xs mv
  below : Below w0.heap.size w0 w
  bs : w0.heap.size ≤ bs
  disk : ∀ k, DiskB bd bm fs k → w0.heap.size ≤ k
  mv : ∀ k, mv.ownBlock = some k → w0.heap.size ≤ k
theorem SegOwn.more {w0 w w' : World} {bs bd bm room : Nat} {name : ByteArray} {base : Nat} {fs : List Fil} {xs : List Bat} {mv : Value} (h : SegOwn w0 w bs bd bm room name base fs xs mv) (hb : Below w.heap.size w w') : SegOwn w0 w' bs bd bm room name base fs xs mv :=
  ⟨h.at'.below hb, h.below.trans (hb.mono h.below.size), h.bs, h.disk, h.mv⟩
theorem own_append {w0 w : World} {bs bd bm room : Nat} {name : ByteArray} {base : Nat} {fs : List Fil} {xs : List Bat} {mv : Value} (h : SegOwn w0 w bs bd bm room name base fs xs mv) (x : Bat) (hx : x.Ok) (hb : x.b = endOf base xs) (hr : (text xs).length + x.l.length ≤ room) :
    Calls Tryz.prog 26 #[.pointer (some ⟨bs, 0, none⟩), .string (Bt.str x.l)] w fun e w' => e = .returned (.int .i64 0) ∧ ∃ fs' mv', SegOwn w0 w' bs bd bm room name base fs' (xs ++ [x]) mv' := by
  refine (seg_append h.at' x hx hb (Bt.str x.l) (Bt.str_data _) (by rw [Bt.str_size]; exact hr)).mono ?_
  rintro e w' ⟨rfl, fs', mv', hS, hT, hN⟩
  have hF : ∀ k, (k = bs ∨ mv.ownBlock = some k ∨ DiskB bd bm fs k) → w0.heap.size ≤ k := by
    rintro k (rfl | hk | hk)
    · exact h.bs
    · exact h.mv k hk
    · exact h.disk k hk
  refine ⟨rfl, fs', mv', hS, h.below.trans (hT.below h.below.size hF), h.bs, ?_, ?_⟩
  · intro k hk
    rcases hN k (.inl hk) with h1 | h1 | h1
    · exact h.disk k h1
    · exact h.mv k h1
    · exact Nat.le_trans h.below.size h1
  · intro k hk
    rcases hN k (.inr hk) with h1 | h1 | h1
    · exact h.disk k h1
    · exact h.mv k h1
    · exact Nat.le_trans h.below.size h1
/-- a batch that has an offset -/
theorem own_batch {w0 w : World} {bs bd bm room : Nat} {name : ByteArray} {base : Nat} {fs : List Fil} {xs : List Bat} {mv : Value} (h : SegOwn w0 w bs bd bm room name base fs xs mv) (o : Nat) (h0 : base ≤ o) (h1 : o < endOf base xs) :
    Calls Tryz.prog 42 #[.pointer (some ⟨bs, 0, none⟩), .int .i64 o] w fun e w' => BatchPost xs base o e ∧ Below w.heap.size w w' := by
  rcases h.at'.file with ⟨_, rfl⟩ | ⟨f, rfl, hn, hf⟩
  · exfalso; simp [endOf] at h1; omega
  · subst hn
    exact batch_in xs h.at'.chain f (by simp) hf h.at'.disk h.at'.seg o h0 h1
theorem batch_one {x : Bat} {base o : Nat} {e : Ending} (h : BatchPost [x] base o e) : e = .returned (.tuple #[.string (Bt.str x.l), .int .i64 0]) := by
  obtain ⟨k, hk, _, _, he⟩ := h
  obtain rfl : k = 0 := by simpa using hk
  exact he
theorem b27 : bits .and .i64 2 7 = ((2 : Nat) : Int) := rfl
theorem b07 : bits .and .i64 0 7 = ((0 : Nat) : Int) := rfl
theorem b0255 : bits .and .i64 0 255 = ((0 : Nat) : Int) := rfl
theorem b0w : bits .and .i64 0 65535 = ((0 : Nat) : Int) := rfl
end Go.Proofs.YtcioejacijkbcaaGreatDoor.Sg
