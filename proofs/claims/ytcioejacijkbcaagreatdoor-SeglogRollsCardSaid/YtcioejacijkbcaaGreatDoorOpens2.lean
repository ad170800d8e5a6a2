/- Slices that came in, opened whatever their elements are: each element's cells, its reading, and what it weighs. No condition. -/
import Derived.Test.YtcioejacijkbcaaGreatDoorOpens
namespace Go.Proofs.YtcioejacijkbcaaGreatDoor.Opens
open Go.Joins Go.ChangeShapes Go.WideShapes Go.RowKit Go.Deep
section
variable {H : Type} {enc : TypeId × Value → H} {P : Program} {w : World} {base : Nat} {spare : Nat → Bool} {held : Bool}
theorem add_block (a : Addr) (n : Nat) : (a.add n).block = a.block := by unfold Addr.add; split <;> rfl
theorem cell_lt {w : World} {a : Addr} {v : Value} (h : w.cell? a = some v) : a.block < w.heap.size := by
  unfold World.cell? at h
  rcases Nat.lt_or_ge a.block w.heap.size with h1 | h1
  · exact h1
  · rw [Array.getElem?_eq_none h1] at h; cases h
theorem weightsAll_mem {e : TypeId} : ∀ {l : List (DataW H)} {d : DataW H}, d ∈ l → ∀ m ∈ d.weights P e, m ∈ DataW.weightsAll P e l
  | x :: l, d, hd, m, hm => by
    simp only [DataW.weightsAll, List.mem_append]
    rcases List.mem_cons.1 hd with rfl | hd
    · exact .inl hm
    · exact .inr (weightsAll_mem hd m hm)
/-- Each element. -/
theorem open_any {r : Reach} {b0 : Nat} {t e : TypeId} {v : Value} {d : DataW H} {p : List MemPlace} (ht : P.underlying t = some (.slice e)) (hv : Value.okWide P w r b0 t v) (h : DataW.Trod enc P w base spare held t v d p) :
    ∃ (ap : Option Addr) (len cap : Nat), v = .slice ap len cap ∧ len ≤ cap ∧ (len = 0 ∨ len * P.bytesOf e ≤ len * P.bytesOf e ∧ ∃ m ∈ d.weights P t, len * P.bytesOf e ≤ m) ∧
      ∀ i, i < len → ∃ (a : Addr) (cs : List Value) (n : Nat) (y : DataW H × List MemPlace), ap = some a ∧ cs.length = P.cellsOf e ∧ (∀ j, j < P.cellsOf e → w.cell? (a.add (i * P.cellsOf e + j)) = cs[j]?) ∧ DataW.trod enc P w base spare held n e cs = some y ∧ ∀ m ∈ y.1.weights P e, m ∈ d.weights P t := by
  obtain ⟨ap, len, cap, rfl⟩ := okWide_slice ht hv
  obtain ⟨fuel, hf⟩ := h
  rcases open_slice ht hf with ⟨h0, _⟩ | ⟨a, len', cap', m, n, D, Pl, hcs, hb, hl, hm, hmm, hx, hi⟩
  · simp [Value.cells] at h0
    obtain ⟨rfl, rfl, rfl⟩ := h0
    exact ⟨none, 0, 0, rfl, Nat.le_refl _, .inl rfl, fun i hi => by omega⟩
  · simp [Value.cells] at hcs
    obtain ⟨rfl, rfl, rfl⟩ := hcs
    have hd : d = .slice ((List.range len).map D) ((List.range (m - len)).map fun j => D (len + j)) := (Prod.mk.inj hx).1
    have hlm : len ≤ m := by rw [hmm]; split <;> omega
    refine ⟨some a, len, cap, rfl, hl, .inr ⟨Nat.le_refl _, m * P.bytesOf e, ?_, Nat.mul_le_mul_right _ hlm⟩, ?_⟩
    · rw [hd]
      simp only [DataW.weights, ht, List.length_map, List.length_range, List.mem_cons]
      left
      rw [show len + (m - len) = m from by omega]
    · intro i hil
      obtain ⟨cs', hc, htr⟩ := hi i (by omega)
      obtain ⟨_, hcl, hat⟩ := World.cells?_some hc
      refine ⟨a, cs', n, (D i, Pl i), rfl, hcl, fun j hj => by rw [← Go.Deep.add_add]; exact hat j hj, htr, fun x hx => ?_⟩
      rw [hd]
      simp only [DataW.weights, ht, List.mem_cons, List.mem_append]
      exact .inr (.inl (weightsAll_mem (List.mem_map_of_mem (List.mem_range.2 hil)) x hx))
/-- A slice of strings. -/
theorem open_strs {r : Reach} {b0 : Nat} {t e : TypeId} {v : Value} {d : DataW H} {p : List MemPlace} {reach : Nat} (ht : P.underlying t = some (.slice e)) (he : P.underlying e = some .string) (hc : P.cellsOf e = 1) (hby : P.bytesOf e = 16) (hv : Value.okWide P w r b0 t v) (h : DataW.Trod enc P w base spare held t v d p)
    (hw : ∀ m ∈ d.weights P t, m ≤ reach) :
    ∃ (ap : Option Addr) (cap : Nat) (ss : List ByteArray), v = .slice ap ss.length cap ∧ ss.length * 16 ≤ reach ∧ (∀ s ∈ ss, s.size ≤ reach) ∧ ∀ i, i < ss.length → ∃ a, ap = some a ∧ a.block < w.heap.size ∧ w.cell? (a.add i) = some (.string (ss.getD i ByteArray.empty)) := by
  obtain ⟨ap, len, cap, rfl, hl, hlw, hi⟩ := open_any ht hv h
  have hex : ∀ i, i < len → ∃ s : ByteArray, s.size ≤ reach ∧ ∃ a, ap = some a ∧ a.block < w.heap.size ∧ w.cell? (a.add i) = some (.string s) := by
    intro i hil
    obtain ⟨a, cs, n, y, rfl, hcl, hcell, htr, hws⟩ := hi i hil
    obtain ⟨s, rfl, rfl, hs⟩ := DataW.trod_string he htr
    have hc0 := hcell 0 (by omega)
    rw [hc, Nat.mul_one, Nat.add_zero] at hc0
    have hc0' : w.cell? (a.add i) = some (.string s) := hc0
    refine ⟨s, ?_, a, rfl, by have := cell_lt hc0'; rwa [add_block] at this, hc0'⟩
    have := hw _ (hws s.data.toList.length (by simp [DataW.weights]))
    simpa using this
  let f : Nat → ByteArray := fun i => if hil : i < len then (hex i hil).choose else ByteArray.empty
  have hf : ∀ i (hil : i < len), f i = (hex i hil).choose := fun i hil => by simp only [f, dif_pos hil]
  refine ⟨ap, cap, (List.range len).map f, by simp, ?_, ?_, ?_⟩
  · simp only [List.length_map, List.length_range]
    rcases hlw with rfl | ⟨_, m, hm, hle⟩
    · omega
    · have := hw m hm; rw [hby] at hle; omega
  · intro s hs
    obtain ⟨i, hir, rfl⟩ := List.mem_map.1 hs
    have hil := List.mem_range.1 hir
    rw [hf i hil]; exact (hex i hil).choose_spec.1
  · intro i hil
    simp only [List.length_map, List.length_range] at hil
    obtain ⟨a, h1, h2, h3⟩ := (hex i hil).choose_spec.2
    refine ⟨a, h1, h2, ?_⟩
    rw [h3, List.getD_eq_getElem?_getD, List.getElem?_map, List.getElem?_range hil]
    simp only [Option.map_some, Option.getD_some, hf i hil]
/-- A slice of bools. -/
theorem open_bools {r : Reach} {b0 : Nat} {t e : TypeId} {v : Value} {d : DataW H} {p : List MemPlace} {reach : Nat} (ht : P.underlying t = some (.slice e)) (he : P.underlying e = some .bool) (hc : P.cellsOf e = 1) (hby : P.bytesOf e = 1) (hv : Value.okWide P w r b0 t v) (h : DataW.Trod enc P w base spare held t v d p)
    (hw : ∀ m ∈ d.weights P t, m ≤ reach) :
    ∃ (ap : Option Addr) (cap : Nat) (ss : List Bool), v = .slice ap ss.length cap ∧ ss.length ≤ reach ∧ ∀ i, i < ss.length → ∃ a, ap = some a ∧ a.block < w.heap.size ∧ w.cell? (a.add i) = some (.bool (ss.getD i false)) := by
  obtain ⟨ap, len, cap, rfl, hl, hlw, hi⟩ := open_any ht hv h
  have hex : ∀ i, i < len → ∃ s : Bool, ∃ a, ap = some a ∧ a.block < w.heap.size ∧ w.cell? (a.add i) = some (.bool s) := by
    intro i hil
    obtain ⟨a, cs, n, y, rfl, hcl, hcell, htr, hws⟩ := hi i hil
    obtain ⟨s, rfl, rfl⟩ := DataW.trod_bool he htr
    have hc0 := hcell 0 (by omega)
    rw [hc, Nat.mul_one, Nat.add_zero] at hc0
    have hc0' : w.cell? (a.add i) = some (.bool s) := hc0
    exact ⟨s, a, rfl, by have := cell_lt hc0'; rwa [add_block] at this, hc0'⟩
  let f : Nat → Bool := fun i => if hil : i < len then (hex i hil).choose else false
  have hf : ∀ i (hil : i < len), f i = (hex i hil).choose := fun i hil => by simp only [f, dif_pos hil]
  refine ⟨ap, cap, (List.range len).map f, by simp, ?_, ?_⟩
  · simp only [List.length_map, List.length_range]
    rcases hlw with rfl | ⟨_, m, hm, hle⟩
    · omega
    · have := hw m hm; rw [hby] at hle; omega
  · intro i hil
    simp only [List.length_map, List.length_range] at hil
    obtain ⟨a, h1, h2, h3⟩ := (hex i hil).choose_spec
    refine ⟨a, h1, h2, ?_⟩
    rw [h3, List.getD_eq_getElem?_getD, List.getElem?_map, List.getElem?_range hil]
    simp only [Option.map_some, Option.getD_some, hf i hil]
/-- A slice of pairs of whole numbers (arrays of two). -/
theorem open_pairs {r : Reach} {b0 : Nat} {t e ei : TypeId} {v : Value} {d : DataW H} {p : List MemPlace} {reach : Nat} (ht : P.underlying t = some (.slice e)) (he : P.underlying e = some (.array 2 ei)) (hei : P.underlying ei = some (.int .i64)) (hc1 : P.cellsOf ei = 1) (hc : P.cellsOf e = 2) (hby : P.bytesOf e = 16) (hv : Value.okWide P w r b0 t v) (h : DataW.Trod enc P w base spare held t v d p)
    (hw : ∀ m ∈ d.weights P t, m ≤ reach) :
    ∃ (ap : Option Addr) (cap : Nat) (ss : List (Int × Int)), v = .slice ap ss.length cap ∧ ss.length * 16 ≤ reach ∧ ∀ i, i < ss.length → ∃ a, ap = some a ∧ a.block < w.heap.size ∧ w.cell? (a.add (i * 2)) = some (.int .i64 (ss.getD i (0, 0)).1) ∧ w.cell? (a.add (i * 2 + 1)) = some (.int .i64 (ss.getD i (0, 0)).2) := by
  obtain ⟨ap, len, cap, rfl, hl, hlw, hi⟩ := open_any ht hv h
  have hex : ∀ i, i < len → ∃ s : Int × Int, ∃ a, ap = some a ∧ a.block < w.heap.size ∧ w.cell? (a.add (i * 2)) = some (.int .i64 s.1) ∧ w.cell? (a.add (i * 2 + 1)) = some (.int .i64 s.2) := by
    intro i hil
    obtain ⟨a, cs, n, y, rfl, hcl, hcell, htr, hws⟩ := hi i hil
    obtain ⟨xs, m, _, _, hcl2, hxl, hx⟩ := DataW.trod_array he htr
    rw [hc] at hcl hcell
    match cs, hcl with
    | [c0, c1], _ =>
      have x0 := hx 0 (by omega)
      have x1 := hx 1 (by omega)
      rw [hc1] at x0 x1
      obtain ⟨y0, e0⟩ : ∃ y0, xs[0]? = some y0 := ⟨_, List.getElem?_eq_getElem (by omega)⟩
      obtain ⟨y1, e1⟩ : ∃ y1, xs[1]? = some y1 := ⟨_, List.getElem?_eq_getElem (by omega)⟩
      rw [e0] at x0; rw [e1] at x1
      obtain ⟨n0, h0, _, _⟩ := DataW.trod_int hei x0
      obtain ⟨n1, h1, _, _⟩ := DataW.trod_int hei x1
      simp at h0 h1
      subst h0 h1
      have g0 := hcell 0 (by omega)
      have g1 := hcell 1 (by omega)
      rw [Nat.add_zero] at g0
      exact ⟨(n0, n1), a, rfl, by have := cell_lt g0; rwa [add_block] at this, g0, g1⟩
  let f : Nat → Int × Int := fun i => if hil : i < len then (hex i hil).choose else (0, 0)
  have hf : ∀ i (hil : i < len), f i = (hex i hil).choose := fun i hil => by simp only [f, dif_pos hil]
  refine ⟨ap, cap, (List.range len).map f, by simp, ?_, ?_⟩
  · simp only [List.length_map, List.length_range]
    rcases hlw with rfl | ⟨_, m, hm, hle⟩
    · omega
    · have := hw m hm; rw [hby] at hle; omega
  · intro i hil
    simp only [List.length_map, List.length_range] at hil
    obtain ⟨a, h1, h2, h3⟩ := (hex i hil).choose_spec
    refine ⟨a, h1, h2, ?_⟩
    have e1 : ((List.range len).map f).getD i (0, 0) = (hex i hil).choose := by
      rw [List.getD_eq_getElem?_getD, List.getElem?_map, List.getElem?_range hil]
      simp only [Option.map_some, Option.getD_some, hf i hil]
    rw [e1]
    exact h3
end
theorem sized_of {H : Type} {P : Program} {ts : List TypeId} {ds : List (DataW H)} (h : (DataW.weightsEach P ts ds).all (· ≤ reachBytes) = true) {j : Nat} {t : TypeId} {d : DataW H} (ht : ts[j]? = some t) (hd : ds[j]? = some d) : ∀ m ∈ d.weights P t, m ≤ 140737488351232 := by
  intro m hm
  have := List.all_eq_true.1 h m (DataW.weights_mem_each ht hd m hm)
  have h2 := of_decide_eq_true this
  simpa [reachBytes] using h2
end Go.Proofs.YtcioejacijkbcaaGreatDoor.Opens
/- Recipes that came in: one, and a slice of them, opened. No condition. -/
namespace Go.Proofs.YtcioejacijkbcaaGreatDoor.Opens
open Go.Joins Go.ChangeShapes Go.WideShapes Go.RowKit Go.Deep
/-- a recipe -/
structure Rcp where
  c : Int
  k : Int
  p : Int
  q : Int
  v : ByteArray
deriving Inhabited
/-- recipes in memory -/
def RcpsAt (w : World) (ap : Option Addr) (ss : List Rcp) : Prop := ∀ i (h : i < ss.length), ∃ a, ap = some a ∧ a.block < w.heap.size ∧
  w.cell? (a.add (i * 5)) = some (.int .i64 ss[i].c) ∧ w.cell? ⟨(a.add (i * 5)).block, (a.add (i * 5)).off + 1, none⟩ = some (.int .i64 ss[i].k) ∧ w.cell? ⟨(a.add (i * 5)).block, (a.add (i * 5)).off + 2, none⟩ = some (.int .i64 ss[i].p) ∧
  w.cell? ⟨(a.add (i * 5)).block, (a.add (i * 5)).off + 3, none⟩ = some (.int .i64 ss[i].q) ∧ w.cell? ⟨(a.add (i * 5)).block, (a.add (i * 5)).off + 4, none⟩ = some (.string ss[i].v)
theorem RcpsAt.below {w w' : World} {ap : Option Addr} {ss : List Rcp} (h : RcpsAt w ap ss) (hb : Below w.heap.size w w') : RcpsAt w' ap ss := by
  intro i hi
  obtain ⟨a, ha, hlt, h0, h1, h2, h3, h4⟩ := h i hi
  have hc : ∀ x : Addr, x.block = a.block → w'.cell? x = w.cell? x := fun x hx => by unfold World.cell?; rw [hb.block _ (by rw [hx]; exact hlt)]
  exact ⟨a, ha, Nat.lt_of_lt_of_le hlt hb.size, (hc _ (add_block a _)).trans h0, (hc ⟨(a.add (i * 5)).block, _, none⟩ (add_block a _)).trans h1, (hc ⟨(a.add (i * 5)).block, _, none⟩ (add_block a _)).trans h2, (hc ⟨(a.add (i * 5)).block, _, none⟩ (add_block a _)).trans h3, (hc ⟨(a.add (i * 5)).block, _, none⟩ (add_block a _)).trans h4⟩
section
variable {H : Type} {enc : TypeId × Value → H} {P : Program} {w : World} {base : Nat} {spare : Nat → Bool} {held : Bool}
theorem fields5 {t : TypeId} {f0 f1 f2 f3 f4 : Field} {cs : List Value} {y : DataW H × List MemPlace} {n : Nat} (hs : P.underlying t = some (.struct #[f0, f1, f2, f3, f4])) (hone : oneCellFields P #[f0, f1, f2, f3, f4] = true) (hlen5 : cs.length = 5)
    (hi0 : P.underlying f0.type = some (.int .i64)) (hi1 : P.underlying f1.type = some (.int .i64)) (hi2 : P.underlying f2.type = some (.int .i64)) (hi3 : P.underlying f3.type = some (.int .i64)) (hs4 : P.underlying f4.type = some .string)
    (h : DataW.trod enc P w base spare held n t cs = some y) :
    ∃ r : Rcp, cs = [.int .i64 r.c, .int .i64 r.k, .int .i64 r.p, .int .i64 r.q, .string r.v] := by
  match cs, hlen5 with
  | [c0, c1, c2, c3, c4], _ =>
    obtain ⟨xs, m, _, hx, _, hlen, hg⟩ := DataW.trod_struct hs h
    obtain ⟨o0, k0⟩ := hone_of hone 0 f0 rfl
    obtain ⟨o1, k1⟩ := hone_of hone 1 f1 rfl
    obtain ⟨o2, k2⟩ := hone_of hone 2 f2 rfl
    obtain ⟨o3, k3⟩ := hone_of hone 3 f3 rfl
    obtain ⟨o4, k4⟩ := hone_of hone 4 f4 rfl
    match xs, hlen with
    | [y0, y1, y2, y3, y4], _ =>
      have g0 : DataW.trod enc P w base spare held m f0.type [c0] = some y0 := by simpa [o0, k0] using hg 0 f0 rfl
      have g1 : DataW.trod enc P w base spare held m f1.type [c1] = some y1 := by simpa [o1, k1] using hg 1 f1 rfl
      have g2 : DataW.trod enc P w base spare held m f2.type [c2] = some y2 := by simpa [o2, k2] using hg 2 f2 rfl
      have g3 : DataW.trod enc P w base spare held m f3.type [c3] = some y3 := by simpa [o3, k3] using hg 3 f3 rfl
      have g4 : DataW.trod enc P w base spare held m f4.type [c4] = some y4 := by simpa [o4, k4] using hg 4 f4 rfl
      obtain ⟨a0, rfl, _⟩ := int_of hi0 g0
      obtain ⟨a1, rfl, _⟩ := int_of hi1 g1
      obtain ⟨a2, rfl, _⟩ := int_of hi2 g2
      obtain ⟨a3, rfl, _⟩ := int_of hi3 g3
      obtain ⟨s, e4, _, _⟩ := DataW.trod_string hs4 g4
      simp at e4
      subst e4
      exact ⟨⟨a0, a1, a2, a3, s⟩, rfl⟩
/-- A recipe. -/
theorem open_rcp {r : Reach} {b0 : Nat} {t : TypeId} {f0 f1 f2 f3 f4 : Field} {v : Value} {d : DataW H} {p : List MemPlace} (hs : P.underlying t = some (.struct #[f0, f1, f2, f3, f4])) (hone : oneCellFields P #[f0, f1, f2, f3, f4] = true) (hC : P.cellsOf t = 5)
    (hi0 : P.underlying f0.type = some (.int .i64)) (hi1 : P.underlying f1.type = some (.int .i64)) (hi2 : P.underlying f2.type = some (.int .i64)) (hi3 : P.underlying f3.type = some (.int .i64)) (hs4 : P.underlying f4.type = some .string)
    (hv : Value.okWide P w r b0 t v) (h : DataW.Trod enc P w base spare held t v d p) :
    ∃ x : Rcp, v = .agg #[.int .i64 x.c, .int .i64 x.k, .int .i64 x.p, .int .i64 x.q, .string x.v] := by
  obtain ⟨cs, rfl, hsz⟩ := okWide_struct hs hv
  obtain ⟨l⟩ := cs
  obtain ⟨fuel, hf⟩ := h
  obtain ⟨x, hx⟩ := fields5 hs hone (hsz.trans hC) hi0 hi1 hi2 hi3 hs4 hf
  refine ⟨x, ?_⟩
  have : l = [.int .i64 x.c, .int .i64 x.k, .int .i64 x.p, .int .i64 x.q, .string x.v] := by simpa [Value.cells] using hx
  rw [this]
/-- A slice of recipes. -/
theorem open_rcps {r : Reach} {b0 : Nat} {t e : TypeId} {f0 f1 f2 f3 f4 : Field} {v : Value} {d : DataW H} {p : List MemPlace} (ht : P.underlying t = some (.slice e)) (hs : P.underlying e = some (.struct #[f0, f1, f2, f3, f4])) (hone : oneCellFields P #[f0, f1, f2, f3, f4] = true) (hC : P.cellsOf e = 5)
    (hi0 : P.underlying f0.type = some (.int .i64)) (hi1 : P.underlying f1.type = some (.int .i64)) (hi2 : P.underlying f2.type = some (.int .i64)) (hi3 : P.underlying f3.type = some (.int .i64)) (hs4 : P.underlying f4.type = some .string)
    (hv : Value.okWide P w r b0 t v) (h : DataW.Trod enc P w base spare held t v d p) :
    ∃ (ap : Option Addr) (cap : Nat) (ss : List Rcp), v = .slice ap ss.length cap ∧ RcpsAt w ap ss := by
  obtain ⟨ap, len, cap, rfl, hl, hlw, hi⟩ := open_any ht hv h
  have hex : ∀ i, i < len → ∃ x : Rcp, ∃ a, ap = some a ∧ a.block < w.heap.size ∧ w.cell? (a.add (i * 5)) = some (.int .i64 x.c) ∧ ∀ j, 1 ≤ j → j < 5 → w.cell? ⟨(a.add (i * 5)).block, (a.add (i * 5)).off + j, none⟩ = ([.int .i64 x.c, .int .i64 x.k, .int .i64 x.p, .int .i64 x.q, .string x.v] : List Value)[j]? := by
    intro i hil
    obtain ⟨a, cs, n, y, rfl, hcl, hcell, htr, hws⟩ := hi i hil
    rw [hC] at hcl hcell
    obtain ⟨x, rfl⟩ := fields5 hs hone hcl hi0 hi1 hi2 hi3 hs4 htr
    have h0 := hcell 0 (by omega)
    rw [Nat.add_zero] at h0
    refine ⟨x, a, rfl, by have := cell_lt h0; rwa [add_block] at this, h0, ?_⟩
    intro j hj1 hj
    have := hcell j hj
    rw [← Go.Deep.add_add] at this
    rw [← this]
    have e : ∀ b : Addr, b.add j = ⟨b.block, b.off + j, none⟩ := fun b => by unfold Addr.add; rw [if_neg (show ¬ j = 0 by omega)]
    rw [e]
  let f : Nat → Rcp := fun i => if hil : i < len then (hex i hil).choose else default
  have hf : ∀ i (hil : i < len), f i = (hex i hil).choose := fun i hil => by simp only [f, dif_pos hil]
  refine ⟨ap, cap, (List.range len).map f, by simp, ?_⟩
  intro i hil
  simp only [List.length_map, List.length_range] at hil
  obtain ⟨a, h1, h2, h0, h3⟩ := (hex i hil).choose_spec
  have e1 : ((List.range len).map f)[i]'(by simpa using hil) = (hex i hil).choose := by
    rw [List.getElem_map, List.getElem_range, hf i hil]
  rw [e1]
  exact ⟨a, h1, h2, h0, h3 1 (by omega) (by omega), h3 2 (by omega) (by omega), h3 3 (by omega) (by omega), h3 4 (by omega) (by omega)⟩
end
end Go.Proofs.YtcioejacijkbcaaGreatDoor.Opens
