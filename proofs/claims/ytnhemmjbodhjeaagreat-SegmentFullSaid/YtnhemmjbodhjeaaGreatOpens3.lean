/- Recipes that came in: one, and a slice of them, opened. No condition. -/
import Derived.Test.YtnhemmjbodhjeaaGreatOpens2
namespace Go.Proofs.YtnhemmjbodhjeaaGreat.Opens
open Go.Joins Go.ChangeShapes Go.WideShapes Go.RowKit Go.Deep
/-- a recipe -/
structure Rcp where
  c : Int
  k : Int
  p : Int
  q : Int
  v : ByteArray
deriving Inhabited
/-- recipes in memory -/
def RcpsAt (w : World) (ap : Option Addr) (ss : List Rcp) : Prop := ∀ i (h : i < ss.length), ∃ a, ap = some a ∧ a.block < w.heap.size ∧
  w.cell? (a.add (i * 5)) = some (.int .i64 ss[i].c) ∧ w.cell? ⟨(a.add (i * 5)).block, (a.add (i * 5)).off + 1, none⟩ = some (.int .i64 ss[i].k) ∧ w.cell? ⟨(a.add (i * 5)).block, (a.add (i * 5)).off + 2, none⟩ = some (.int .i64 ss[i].p) ∧
  w.cell? ⟨(a.add (i * 5)).block, (a.add (i * 5)).off + 3, none⟩ = some (.int .i64 ss[i].q) ∧ w.cell? ⟨(a.add (i * 5)).block, (a.add (i * 5)).off + 4, none⟩ = some (.string ss[i].v)
theorem RcpsAt.below {w w' : World} {ap : Option Addr} {ss : List Rcp} (h : RcpsAt w ap ss) (hb : Below w.heap.size w w') : RcpsAt w' ap ss := by
  intro i hi
  obtain ⟨a, ha, hlt, h0, h1, h2, h3, h4⟩ := h i hi
  have hc : ∀ x : Addr, x.block = a.block → w'.cell? x = w.cell? x := fun x hx => by unfold World.cell?; rw [hb.block _ (by rw [hx]; exact hlt)]
  exact ⟨a, ha, Nat.lt_of_lt_of_le hlt hb.size, (hc _ (add_block a _)).trans h0, (hc ⟨(a.add (i * 5)).block, _, none⟩ (add_block a _)).trans h1, (hc ⟨(a.add (i * 5)).block, _, none⟩ (add_block a _)).trans h2, (hc ⟨(a.add (i * 5)).block, _, none⟩ (add_block a _)).trans h3, (hc ⟨(a.add (i * 5)).block, _, none⟩ (add_block a _)).trans h4⟩
section
variable {H : Type} {enc : TypeId × Value → H} {P : Program} {w : World} {base : Nat} {spare : Nat → Bool} {held : Bool}
theorem fields5 {t : TypeId} {f0 f1 f2 f3 f4 : Field} {cs : List Value} {y : DataW H × List MemPlace} {n : Nat} (hs : P.underlying t = some (.struct #[f0, f1, f2, f3, f4])) (hone : oneCellFields P #[f0, f1, f2, f3, f4] = true) (hlen5 : cs.length = 5)
    (hi0 : P.underlying f0.type = some (.int .i64)) (hi1 : P.underlying f1.type = some (.int .i64)) (hi2 : P.underlying f2.type = some (.int .i64)) (hi3 : P.underlying f3.type = some (.int .i64)) (hs4 : P.underlying f4.type = some .string)
    (h : DataW.trod enc P w base spare held n t cs = some y) :
    ∃ r : Rcp, cs = [.int .i64 r.c, .int .i64 r.k, .int .i64 r.p, .int .i64 r.q, .string r.v] := by
  match cs, hlen5 with
  | [c0, c1, c2, c3, c4], _ =>
    obtain ⟨xs, m, _, hx, _, hlen, hg⟩ := DataW.trod_struct hs h
    obtain ⟨o0, k0⟩ := hone_of hone 0 f0 rfl
    obtain ⟨o1, k1⟩ := hone_of hone 1 f1 rfl
    obtain ⟨o2, k2⟩ := hone_of hone 2 f2 rfl
    obtain ⟨o3, k3⟩ := hone_of hone 3 f3 rfl
    obtain ⟨o4, k4⟩ := hone_of hone 4 f4 rfl
    match xs, hlen with
    | [y0, y1, y2, y3, y4], _ =>
      have g0 : DataW.trod enc P w base spare held m f0.type [c0] = some y0 := by simpa [o0, k0] using hg 0 f0 rfl
      have g1 : DataW.trod enc P w base spare held m f1.type [c1] = some y1 := by simpa [o1, k1] using hg 1 f1 rfl
      have g2 : DataW.trod enc P w base spare held m f2.type [c2] = some y2 := by simpa [o2, k2] using hg 2 f2 rfl
      have g3 : DataW.trod enc P w base spare held m f3.type [c3] = some y3 := by simpa [o3, k3] using hg 3 f3 rfl
      have g4 : DataW.trod enc P w base spare held m f4.type [c4] = some y4 := by simpa [o4, k4] using hg 4 f4 rfl
      obtain ⟨a0, rfl, _⟩ := int_of hi0 g0
      obtain ⟨a1, rfl, _⟩ := int_of hi1 g1
      obtain ⟨a2, rfl, _⟩ := int_of hi2 g2
      obtain ⟨a3, rfl, _⟩ := int_of hi3 g3
      obtain ⟨s, e4, _, _⟩ := DataW.trod_string hs4 g4
      simp at e4
      subst e4
      exact ⟨⟨a0, a1, a2, a3, s⟩, rfl⟩
/-- A recipe. -/
theorem open_rcp {r : Reach} {b0 : Nat} {t : TypeId} {f0 f1 f2 f3 f4 : Field} {v : Value} {d : DataW H} {p : List MemPlace} (hs : P.underlying t = some (.struct #[f0, f1, f2, f3, f4])) (hone : oneCellFields P #[f0, f1, f2, f3, f4] = true) (hC : P.cellsOf t = 5)
    (hi0 : P.underlying f0.type = some (.int .i64)) (hi1 : P.underlying f1.type = some (.int .i64)) (hi2 : P.underlying f2.type = some (.int .i64)) (hi3 : P.underlying f3.type = some (.int .i64)) (hs4 : P.underlying f4.type = some .string)
    (hv : Value.okWide P w r b0 t v) (h : DataW.Trod enc P w base spare held t v d p) :
    ∃ x : Rcp, v = .agg #[.int .i64 x.c, .int .i64 x.k, .int .i64 x.p, .int .i64 x.q, .string x.v] := by
  obtain ⟨cs, rfl, hsz⟩ := okWide_struct hs hv
  obtain ⟨l⟩ := cs
  obtain ⟨fuel, hf⟩ := h
  obtain ⟨x, hx⟩ := fields5 hs hone (hsz.trans hC) hi0 hi1 hi2 hi3 hs4 hf
  refine ⟨x, ?_⟩
  have : l = [.int .i64 x.c, .int .i64 x.k, .int .i64 x.p, .int .i64 x.q, .string x.v] := by simpa [Value.cells] using hx
  rw [this]
/-- A slice of recipes. -/
theorem open_rcps {r : Reach} {b0 : Nat} {t e : TypeId} {f0 f1 f2 f3 f4 : Field} {v : Value} {d : DataW H} {p : List MemPlace} (ht : P.underlying t = some (.slice e)) (hs : P.underlying e = some (.struct #[f0, f1, f2, f3, f4])) (hone : oneCellFields P #[f0, f1, f2, f3, f4] = true) (hC : P.cellsOf e = 5)
    (hi0 : P.underlying f0.type = some (.int .i64)) (hi1 : P.underlying f1.type = some (.int .i64)) (hi2 : P.underlying f2.type = some (.int .i64)) (hi3 : P.underlying f3.type = some (.int .i64)) (hs4 : P.underlying f4.type = some .string)
    (hv : Value.okWide P w r b0 t v) (h : DataW.Trod enc P w base spare held t v d p) :
    ∃ (ap : Option Addr) (cap : Nat) (ss : List Rcp), v = .slice ap ss.length cap ∧ RcpsAt w ap ss := by
  obtain ⟨ap, len, cap, rfl, hl, hlw, hi⟩ := open_any ht hv h
  have hex : ∀ i, i < len → ∃ x : Rcp, ∃ a, ap = some a ∧ a.block < w.heap.size ∧ w.cell? (a.add (i * 5)) = some (.int .i64 x.c) ∧ ∀ j, 1 ≤ j → j < 5 → w.cell? ⟨(a.add (i * 5)).block, (a.add (i * 5)).off + j, none⟩ = ([.int .i64 x.c, .int .i64 x.k, .int .i64 x.p, .int .i64 x.q, .string x.v] : List Value)[j]? := by
    intro i hil
    obtain ⟨a, cs, n, y, rfl, hcl, hcell, htr, hws⟩ := hi i hil
    rw [hC] at hcl hcell
    obtain ⟨x, rfl⟩ := fields5 hs hone hcl hi0 hi1 hi2 hi3 hs4 htr
    have h0 := hcell 0 (by omega)
    rw [Nat.add_zero] at h0
    refine ⟨x, a, rfl, by have := cell_lt h0; rwa [add_block] at this, h0, ?_⟩
    intro j hj1 hj
    have := hcell j hj
    rw [← Go.Deep.add_add] at this
    rw [← this]
    have e : ∀ b : Addr, b.add j = ⟨b.block, b.off + j, none⟩ := fun b => by unfold Addr.add; rw [if_neg (show ¬ j = 0 by omega)]
    rw [e]
  let f : Nat → Rcp := fun i => if hil : i < len then (hex i hil).choose else default
  have hf : ∀ i (hil : i < len), f i = (hex i hil).choose := fun i hil => by simp only [f, dif_pos hil]
  refine ⟨ap, cap, (List.range len).map f, by simp, ?_⟩
  intro i hil
  simp only [List.length_map, List.length_range] at hil
  obtain ⟨a, h1, h2, h0, h3⟩ := (hex i hil).choose_spec
  have e1 : ((List.range len).map f)[i]'(by simpa using hil) = (hex i hil).choose := by
    rw [List.getElem_map, List.getElem_range, hf i hil]
  rw [e1]
  exact ⟨a, h1, h2, h0, h3 1 (by omega) (by omega), h3 2 (by omega) (by omega), h3 3 (by omega) (by omega), h3 4 (by omega) (by omega)⟩
end
end Go.Proofs.YtnhemmjbodhjeaaGreat.Opens
