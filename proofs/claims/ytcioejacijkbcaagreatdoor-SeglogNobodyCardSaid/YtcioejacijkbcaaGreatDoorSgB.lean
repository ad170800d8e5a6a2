/- segment: note. -/
import Derived.Test.YtcioejacijkbcaaGreatDoorSgA
import Derived.Maps.AppendAt
import Derived.Deep.Cut
import Derived.Deep.RegionLaw
import Derived.Deep.AppendLies
namespace Go.Proofs.YtcioejacijkbcaaGreatDoor.Sg
open Go.RowKit Go.Maps Go.ChangeMaps Go.WideMaps Go.Proofs.YtcioejacijkbcaaGreatDoor.Vd Go.Proofs.YtcioejacijkbcaaGreatDoor.Rc Go.Proofs.YtcioejacijkbcaaGreatDoor.Ba
set_option linter.unusedVariables false
set_option linter.unusedSimpArgs false
theorem infoM : ((Tryz.prog.info? 144).map fun i => (i.zero, i.size, i.bytes)) = some (some (.agg #[.int .i64 0, .int .i64 0]), 2, 16) := by kernel_rfl
def mcells (ms : List (Nat × Nat)) : List Value := ms.flatMap fun m => [.int .i64 m.1, .int .i64 m.2]
/-- one mark more -/
theorem step_append_mark {w : World} {ops : Array Oper} {o : Oper} {a : Act} {K : Act → World → Prop} {Q : Exit → Act → World → Prop} {E : Prop} (hgd : o.guard = none) (s x : Operand)
    (ho : o.op = .call { callee := .builtin .append, args := #[s, x], argTypes := #[97, 97] })
    (v : Value) (ms : List (Nat × Nat)) (hs : a.eval s = v) (hown : w.ownsRow 0 144 2 v ms.length (mcells ms))
    (b : Nat) (r : Nat × Nat) (hx : a.eval x = .slice (some ⟨b, 0, none⟩) 1 1) (hc : w.heap[b]? = some (.cells #[.int .i64 r.1, .int .i64 r.2] 144 (0, 0))) (hsz : ms.length ≤ 1099511627776)
    (h : ∀ g cap w', w'.ownsRow 0 144 2 (.slice (some ⟨g, 0, none⟩) (ms.length + 1) cap) (ms ++ [r]).length (mcells (ms ++ [r])) → w.grownBy w' v.ownBlock → (v.ownBlock = some g ∨ g = w.heap.size) → g < w'.heap.size → K (a.put o.dst (.slice (some ⟨g, 0, none⟩) (ms.length + 1) cap)) w') :
    if Region.wanted o (yielded ops a.tmps) = true then Oper.wp Tryz.prog o a w K Q else E := by
  obtain ⟨i0, hi, hz0, hz1, hz2⟩ := info_parts infoM
  refine step_append_lies w hgd s x 97 ho 0 144 i0 _ 2 16 Tryz.underlying97 hi hz0 hz1 hz2 rfl (by decide) v ms.length (mcells ms) hs hown ⟨b, 0, none⟩ 1 1 [.int .i64 r.1, .int .i64 r.2] hx rfl ?_ ?_ (by decide) (by unfold maxLen; omega) (by omega) (Nat.zero_le _) w.heap.size rfl ?_
  · intro j u hu
    rw [add0, cell_of_row _ _ _ _ _ _ hc]
    have : j < 2 := (List.getElem?_eq_some_iff.1 hu).1
    rw [← hu]
    simp
  · intro u hu; simp at hu; rcases hu with rfl | rfl <;> rfl
  · intro g cap w' h1 h2 h3 h4
    exact h g cap w' (by simpa [mcells] using h1) h2 h3 h4
theorem set345 {w : World} {b : Nat} {v0 v1 v2 v3 v4 v5 v6 : Value} {t : TypeId} {fr : Nat × Nat} (h : w.heap[b]? = some (.cells #[v0, v1, v2, v3, v4, v5, v6] t fr)) (x3 x4 x5 : Value) :
    (((w.setCell ⟨b, 5, none⟩ x5).setCell ⟨b, 4, none⟩ x4).setCell ⟨b, 3, none⟩ x3).heap[b]? = some (.cells #[v0, v1, v2, x3, x4, x5, v6] t fr) := by
  rw [Vd.setCell_block (Vd.setCell_block (Vd.setCell_block h 5 x5) 4 x4) 3 x3]; rfl
theorem touch345 (w : World) (b : Nat) (x3 x4 x5 : Value) {F : Nat → Prop} (h : F b) : Vd.Touch F w (((w.setCell ⟨b, 5, none⟩ x5).setCell ⟨b, 4, none⟩ x4).setCell ⟨b, 3, none⟩ x3) :=
  ((Vd.Touch.set (F := F) _ _ _ h).trans (Vd.Touch.set (F := F) _ _ _ h) (fun x hx => .inl hx)).trans (Vd.Touch.set (F := F) _ _ _ h) (fun x hx => .inl hx)
theorem own_seg {w : World} {bs bd : Nat} {name : ByteArray} {base en size n : Nat} {mv : Value} {ms : List (Nat × Nat)} (S : SgAt w bs bd name base en size n mv ms) : mv.ownBlock ≠ some bs := by
  intro e
  rcases S.own.2 with ⟨h1, h2⟩ | ⟨g, cap, cur, h1, _, h3, _⟩
  · rw [h1] at e; cases e
  · rw [h1] at e
    simp [Value.ownBlock] at e
    rw [e, S.cell] at h3
    injection h3 with h3
    injection h3 with _ h3 _
    exact absurd h3 (by decide)
set_option maxRecDepth 100000 in
set_option maxHeartbeats 1000000 in
theorem note_yes {w : World} {bs bd : Nat} {name : ByteArray} {base en size n : Nat} {mv : Value} {ms : List (Nat × Nat)} (S : SgAt w bs bd name base en size n mv ms) (B C N : Nat) (V P Q : Int) (sl : Value)
    (hB : B ≤ 1099511627776) (hC : C ≤ 65536) (hN : N ≤ 1099511627776) (hs : size ≤ 1099511627776) (hn : n ≤ 1099511627776) (hm : ms.length ≤ 1099511627776) :
    Calls Tryz.prog 61 #[.pointer (some ⟨bs, 0, none⟩), .agg #[.int .i64 B, .int .i64 C, .int .i64 V, .int .i64 P, .int .i64 Q, sl], .int .i64 N] w fun e w' => e = .returned (.tuple #[]) ∧
      ∃ mv', SgAt w' bs bd name base (B + C) (size + N) (n + 1) mv' (if n % 4 = 0 then ms ++ [(B, size)] else ms) ∧ Vd.Touch (fun k => k = bs ∨ mv.ownBlock = some k) w w' ∧ (∀ k, mv'.ownBlock = some k → mv.ownBlock = some k ∨ w.heap.size ≤ k) := by
  have hbs := Vd.lt_of_heap S.cell
  have HS := Lib.hid S
  have HC := Lib.hid (Rc.alloc_old (.cells #[.int .i64 B, .int .i64 C, .int .i64 V, .int .i64 P, .int .i64 Q, sl] 59) S.cell)
  have HD := Lib.hid (heap_alloc_last w (.cells #[.int .i64 B, .int .i64 C, .int .i64 V, .int .i64 P, .int .i64 Q, sl] 59))
  have HO := Lib.hid (World.ownsRow.alloc S.own (.cells #[.int .i64 B, .int .i64 C, .int .i64 V, .int .i64 P, .int .i64 Q, sl] 59))
  have HZ := Lib.hid (show w.heap.size < (w.alloc (.cells #[.int .i64 B, .int .i64 C, .int .i64 V, .int .i64 P, .int .i64 Q, sl] 59)).heap.size by simp)
  have HBL := Lib.hid ((Below.refl w.heap.size w).alloc (Nat.le_refl _) (.cells #[.int .i64 B, .int .i64 C, .int .i64 V, .int .i64 P, .int .i64 Q, sl] 59))
  have HBS := Lib.hid hbs
  clear S hbs
  go_enter Tryz.func61, Tryz.ntmps61
  go_upto_region 1 with (fail)
  generalize hw1 : w.alloc (.cells #[.int .i64 B, .int .i64 C, .int .i64 V, .int .i64 P, .int .i64 Q, sl] 59) = w1 at HC HD HO HZ HBL ⊢
  clear hw1
  generalize hk : w.heap.size = k at HD HZ HBS HBL ⊢
  obtain ⟨c0, c1, c2, c3, c4, c5, c6⟩ := cells7 HC.out
  obtain ⟨z0, z1, z2, z3, z4, z5⟩ := cells6 HD.out
  have hfz : ∀ j, w1.frozen? ⟨bs, j, none⟩ = false := fun j => Lib.frozen_of_heap HC.out j
  have hne : bs ≠ k := Nat.ne_of_lt HBS.out
  by_cases hm4 : n % 4 = 0
  · have ht : ((n : Int) % 4 == 0) = true := beq_iff_eq.2 (by omega)
    have HM := Lib.hid hm4
    clear hm4
    have HO6 := Lib.hid (World.ownsRow.drew (World.ownsRow.alloc HO.out (.cells #[.int .i64 B, .int .i64 size] 144)))
    have HN6 := Lib.hid (show (w1.alloc (.cells #[.int .i64 B, .int .i64 size] 144)).drew.heap[w1.heap.size]? = _ from heap_alloc_last w1 (.cells #[.int .i64 B, .int .i64 size] 144))
    have HC6 := Lib.hid (show (w1.alloc (.cells #[.int .i64 B, .int .i64 size] 144)).drew.heap[bs]? = _ from Rc.alloc_old (.cells #[.int .i64 B, .int .i64 size] 144) HC.out)
    have HD6 := Lib.hid (show (w1.alloc (.cells #[.int .i64 B, .int .i64 size] 144)).drew.heap[k]? = _ from Rc.alloc_old (.cells #[.int .i64 B, .int .i64 size] 144) HD.out)
    have HT6 := Lib.hid (((Below.refl w1.heap.size w1).alloc (Nat.le_refl _) (.cells #[.int .i64 B, .int .i64 size] 144)).drew)
    obtain ⟨e0, e1, e2, e3, e4, e5, e6⟩ := cells7 (show (w1.alloc (.cells #[.int .i64 B, .int .i64 size] 144)).heap[bs]? = _ from HC6.out)
    obtain ⟨y0, y1, y2, y3, y4, y5⟩ := cells6 (show (w1.alloc (.cells #[.int .i64 B, .int .i64 size] 144)).heap[k]? = _ from HD6.out)
    have hfz6 : ∀ j, (w1.alloc (.cells #[.int .i64 B, .int .i64 size] 144)).frozen? ⟨bs, j, none⟩ = false := fun j => Lib.frozen_of_heap HC6.out j
    have HQ := Lib.hid (own_seg HS.out)
    have HQK := Lib.hid (show mv.ownBlock ≠ some k from fun e => by have := (World.ownsRow.lt HS.out.own k e).2; omega)
    go_wp2_with fail
    have hev : (B, size).1 = B ∧ (B, size).2 = size := ⟨rfl, rfl⟩
    go_region_law (refine step_append_mark rfl (.tmp 16) (.tmp 24) rfl mv ms (by simp [Act.eval, Act.put]) HO6.out w1.heap.size (B, size) (by simp [Act.eval, Act.put]) HN6.out hm ?_; intro g cap w2 hO2 hG2 hv2 hl2; have hc2 := (hG2.block bs (Vd.lt_of_heap HC6.out) (fun e => HQ.out e.symm)).trans HC6.out; obtain ⟨d0, d1, d2, d3, d4, d5, d6⟩ := cells7 hc2; have hfz2 := fun j => Lib.frozen_of_heap hc2 j; have hd2 := (hG2.block k (Vd.lt_of_heap HD6.out) (fun e => HQK.out e.symm)).trans HD6.out; obtain ⟨x0, x1, x2, x3, x4, x5⟩ := cells6 hd2)
    all_goals
      have HC2 := Lib.hid hc2
      have HO2 := Lib.hid hO2
      have HG2 := Lib.hid hG2
      have HV2 := Lib.hid hv2
      clear e0 e1 e2 e3 e4 e5 e6 y0 y1 y2 y3 y4 y5 c0 c1 c2 c3 c4 c5 c6 z0 z1 z2 z3 z4 z5 hfz hfz6 hc2 hd2 hO2 hG2 hv2
      go_wp2_with fail
      go_end0
      have hnb : g ≠ bs := by
        rcases HV2.out with h | h
        · exact fun e => HQ.out (by rw [h, e])
        · have := Vd.lt_of_heap HC6.out; intro e; rw [e] at h; omega
      have hset := set345 (Vd.setCell_block HC2.out 6 (.slice (some ⟨g, 0, none⟩) (ms.length + 1) cap)) (.int .i64 ((B : Int) + C)) (.int .i64 ((size : Int) + N)) (.int .i64 ((n : Int) + 1))
      have htch := ((Vd.Touch.set (F := (· = bs)) w2 ⟨bs, 6, none⟩ (.slice (some ⟨g, 0, none⟩) (ms.length + 1) cap) rfl).trans (touch345 _ bs (.int .i64 ((B : Int) + C)) (.int .i64 ((size : Int) + N)) (.int .i64 ((n : Int) + 1)) (F := (· = bs)) rfl) (fun x hx => .inl hx))
      refine ⟨rfl, .slice (some ⟨g, 0, none⟩) (ms.length + 1) cap, ?_, ?_, ?_⟩
      · skip
        exact ⟨by exact_mod_cast hset, Vd.ownsRow_at HO2.out fun k' hk' => htch.block k' (World.ownsRow.lt HO2.out k' hk').2 (fun e => hnb (by simp [Value.ownBlock] at hk'; omega))⟩
      · have h1 : Vd.Touch (fun k => k = bs ∨ mv.ownBlock = some k) w (w1.alloc (.cells #[.int .i64 B, .int .i64 size] 144)).drew := (Vd.Touch.ofBelow (by rw [hk]; exact HBL.out)).trans (Vd.Touch.ofBelow HT6.out) (fun x hx => .inl hx)
        have h2 := (h1.trans (Vd.Touch.grown HG2.out) (fun x hx => .inl (.inr hx)))
        exact h2.trans htch (fun x hx => .inl (.inl hx))
      · intro k' hk'
        simp [Value.ownBlock] at hk'
        subst hk'
        rcases HV2.out with h | h
        · exact .inl h
        · have := HZ.out; have h3 : (w1.alloc (.cells #[.int .i64 B, .int .i64 size] 144)).drew.heap.size = w1.heap.size + 1 := by show (w1.heap.push _).size = _; simp
          exact .inr (by omega)
  · have ht : ((n : Int) % 4 == 0) = false := beq_eq_false_iff_ne.2 (by omega)
    have HM := Lib.hid hm4
    clear hm4
    go_wp2_with fail
    go_end0
    refine ⟨rfl, mv, ?_, ?_, ?_⟩
    · exact ⟨by exact_mod_cast set345 HC.out (.int .i64 ((B : Int) + C)) (.int .i64 ((size : Int) + N)) (.int .i64 ((n : Int) + 1)), Vd.ownsRow_at HO.out fun k' hk' => (touch345 w1 bs _ _ _ (F := (· = bs)) rfl).block k' (World.ownsRow.lt HO.out k' hk').2 (fun e => own_seg HS.out (by rw [hk', e]))⟩
    · exact (Vd.Touch.ofBelow (by rw [hk]; exact HBL.out)).trans (touch345 w1 bs _ _ _ (F := (· = bs)) rfl) (fun x hx => .inl (.inl hx))
    · exact fun k' hk' => .inl hk'
end Go.Proofs.YtcioejacijkbcaaGreatDoor.Sg
