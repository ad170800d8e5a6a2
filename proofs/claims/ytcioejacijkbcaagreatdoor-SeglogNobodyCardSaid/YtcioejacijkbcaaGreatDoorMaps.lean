/- Maps as lists of keys and values, whatever the program: look-up, store, delete, at the run of the operation. The key's type is one that can be a key and reads. -/
import Derived.Maps.Keyed
import Derived.Maps.Own
import Derived.Laws.IdiomRangeMap
import Derived.Below
namespace Go.Proofs.YtcioejacijkbcaaGreatDoor.Mp
open Go.MapKept Go.Maps Go.ChangeMaps Go.RowKit
variable {P : Program} {k : TypeId}

/-- BLOCK b OF w IS A MAP WITH THESE KEYS AND VALUES (in the order in which they came). -/
def MapAt (P : Program) (k : TypeId) (w : World) (b : Nat) (m : List (Value × Value)) : Prop :=
  ∃ es clock, w.heap[b]? = some (.map es clock) ∧ Stamped es clock ∧ es.toList.map (fun e => (e.key, e.val)) = m ∧ ∀ e ∈ es.toList, ∃ l, keyOf P k e.key = some l

theorem MapAt.lt {w : World} {b : Nat} {m : List (Value × Value)} (h : MapAt P k w b m) : b < w.heap.size := by
  obtain ⟨es, clock, hb, _⟩ := h
  exact (Array.getElem?_eq_some_iff.1 hb).1
theorem MapAt.kept {w w' : World} {b : Nat} {m : List (Value × Value)} (h : MapAt P k w b m) (he : w'.heap[b]? = w.heap[b]?) : MapAt P k w' b m := by
  obtain ⟨es, clock, hb, r⟩ := h
  exact ⟨es, clock, he.trans hb, r⟩
theorem MapAt.nodup {w : World} {b : Nat} {m : List (Value × Value)} (h : MapAt P k w b m) : (m.map (·.1)).Nodup := by
  obtain ⟨es, clock, hb, hs, rfl, _⟩ := h
  have := hs.2.2
  simpa [List.map_map, Function.comp_def] using this
theorem mapAt_made (w : World) : MapAt P k (w.alloc (.map #[] 0)) w.heap.size [] := ⟨#[], 0, (heap_alloc w _).1, stamped_empty 0, rfl, by simp⟩

theorem split_mem {es : List MapEntry} {j : Nat} {e : MapEntry} (h : es[j]? = some e) : es = es.take j ++ e :: es.drop (j + 1) := by
  obtain ⟨hj, he⟩ := List.getElem?_eq_some_iff.1 h
  rw [← he, ← List.drop_eq_getElem_cons hj, List.take_append_drop]

/-- 'm[k]', with 'ok' or without. -/
theorem lookup {w : World} {b : Nat} {m : List (Value × Value)} (h : MapAt P k w b m) (K : Keyed P k) {t e : TypeId} (ht : P.underlying t = some (.map k e)) {z : Value} (hz : (zeroValue e).run P w = .ok z w) (c : Bool) {key : Value} {kl : Lit} (hkey : keyOf P k key = some kl) :
    ((∀ p ∈ m, p.1 ≠ key) ∧ (Instr.lookup t (.map (some b)) key c).run P w = .ok (if c then .tuple #[z, .bool false] else z) w) ∨
    ∃ v, (key, v) ∈ m ∧ (Instr.lookup t (.map (some b)) key c).run P w = .ok (if c then .tuple #[v, .bool true] else v) w := by
  obtain ⟨es, clock, hb, hs, rfl, hk⟩ := h
  rcases K.find w hkey es.toList hk with ⟨h1, h2⟩ | ⟨j, e0, h1, h2, h3⟩
  · refine .inl ⟨?_, by simp [Instr.lookup, run_underlying ht, MapKept.run_getObj_map hb, K.check w _ hkey, h1, hz, Result.andThen]⟩
    intro p hp
    obtain ⟨x, hx, rfl⟩ := List.mem_map.1 hp
    exact h2 x hx
  · refine .inr ⟨e0.val, List.mem_map.2 ⟨e0, List.mem_of_getElem? h2, by rw [h3]⟩, by simp [Instr.lookup, run_underlying ht, MapKept.run_getObj_map hb, K.check w _ hkey, h1, Result.andThen]⟩

/-- 'm[k] = v'. -/
theorem store {w : World} {b : Nat} {m : List (Value × Value)} (h : MapAt P k w b m) (K : Keyed P k) {t e : TypeId} (ht : P.underlying t = some (.map k e)) {key : Value} {kl : Lit} (hkey : keyOf P k key = some kl) (val : Value) :
    ∃ o m', (Instr.mapUpdate t (.map (some b)) key val).run P w = .ok () (setBlock w b o) ∧ MapAt P k (setBlock w b o) b m' ∧
      (((∀ p ∈ m, p.1 ≠ key) ∧ m' = m ++ [(key, val)]) ∨ ∃ m1 v0 m2, m = m1 ++ (key, v0) :: m2 ∧ m' = m1 ++ (key, val) :: m2) := by
  have hlt := h.lt
  obtain ⟨es, clock, hb, hs, rfl, hk⟩ := h
  have hset : ∀ o, (setBlock w b o).heap[b]? = some o := fun o => by simp [setBlock, hlt]
  rcases K.find w hkey es.toList hk with ⟨h1, h2⟩ | ⟨j, e0, h1, h2, h3⟩
  · refine ⟨_, _, by simp [Instr.mapUpdate, run_underlying ht, MapKept.run_getObj_map hb, K.check w false hkey, h1, MapKept.run_setObj_map _ hb, Result.andThen, setBlock], ⟨es.push ⟨key, val, clock⟩, clock + 1, hset _, stamped_push hs h2, rfl, ?_⟩, .inl ⟨?_, by simp⟩⟩
    · intro x hx
      simp only [Array.toList_push, List.mem_append, List.mem_singleton] at hx
      rcases hx with hx | rfl
      · exact hk x hx
      · exact ⟨_, hkey⟩
    · intro p hp
      obtain ⟨x, hx, rfl⟩ := List.mem_map.1 hp
      exact h2 x hx
  · have hj : es[j]? = some e0 := by simpa using h2
    have hkeyf : ∀ e', es[j]? = some e' → ({ e' with key := key, val := val } : MapEntry).key = e'.key := fun e' he' => by rw [hj] at he'; cases he'; exact h3.symm
    have hlist : (es.modify j (fun e' => { e' with key := key, val := val })).toList = es.toList.set j { e0 with key := key, val := val } := by rw [Array.toList_modify, modify_eq_set _ _ _ _ h2]
    have hsp := split_mem h2
    have hjl : j < es.toList.length := (List.getElem?_eq_some_iff.1 h2).1
    have hset2 : es.toList.set j { e0 with key := key, val := val } = es.toList.take j ++ { e0 with key := key, val := val } :: es.toList.drop (j + 1) := by
      rw [List.set_eq_take_append_cons_drop, if_pos hjl]
    refine ⟨_, _, by simp [Instr.mapUpdate, run_underlying ht, MapKept.run_getObj_map hb, K.check w false hkey, h1, hj, h3, K.stays w hkey, MapKept.run_setObj_map _ hb, Result.andThen, setBlock], ⟨es.modify j (fun e' => { e' with key := key, val := val }), clock, hset _, stamped_modify hs _ _ (fun _ _ => rfl) (fun e' _ he' => hkeyf e' he'), rfl, ?_⟩, .inr ⟨(es.toList.take j).map (fun e => (e.key, e.val)), e0.val, (es.toList.drop (j + 1)).map (fun e => (e.key, e.val)), ?_, ?_⟩⟩
    · intro x hx
      rw [hlist, hset2] at hx
      simp only [List.mem_append, List.mem_cons] at hx
      rcases hx with hx | rfl | hx
      · exact hk x (List.mem_of_mem_take hx)
      · exact ⟨_, hkey⟩
      · exact hk x (List.mem_of_mem_drop hx)
    · conv => lhs; rw [hsp]
      simp [h3]
    · rw [hlist, hset2]
      simp

/-- 'delete(m, k)'. -/
theorem delete {w : World} {b : Nat} {m : List (Value × Value)} (h : MapAt P k w b m) (K : Keyed P k) {t e ty : TypeId} (ht : P.underlying t = some (.map k e)) {key : Value} {kl : Lit} (hkey : keyOf P k key = some kl) (kt : TypeId) :
    ∃ o m', (Builtin.delete_ #[t, kt] ty #[.map (some b), key]).run P w = .ok (.tuple #[]) (setBlock w b o) ∧ MapAt P k (setBlock w b o) b m' ∧
      (((∀ p ∈ m, p.1 ≠ key) ∧ m' = m) ∨ ∃ m1 v0 m2, m = m1 ++ (key, v0) :: m2 ∧ m' = m1 ++ m2) := by
  have hlt := h.lt
  obtain ⟨es, clock, hb, hs, rfl, hk⟩ := h
  have hset : ∀ o, (setBlock w b o).heap[b]? = some o := fun o => by simp [setBlock, hlt]
  rcases K.find w hkey es.toList hk with ⟨h1, h2⟩ | ⟨j, e0, h1, h2, h3⟩
  · refine ⟨_, _, by simp [Builtin.delete_, run_underlying ht, MapKept.run_getObj_map hb, K.check w _ hkey, h1, MapKept.run_setObj_map _ hb, Result.andThen, setBlock], ⟨es, clock, hset _, hs, rfl, hk⟩, .inl ⟨?_, rfl⟩⟩
    intro p hp
    obtain ⟨x, hx, rfl⟩ := List.mem_map.1 hp
    exact h2 x hx
  · have hj : es[j]? = some e0 := by simpa using h2
    have hjl : j < es.toList.length := (List.getElem?_eq_some_iff.1 h2).1
    have hsp := split_mem h2
    have hlist : (es.eraseIdxIfInBounds j).toList = es.toList.take j ++ es.toList.drop (j + 1) := by
      rw [Array.toList_eraseIdxIfInBounds, List.eraseIdx_eq_take_drop_succ]
    refine ⟨_, _, by simp [Builtin.delete_, run_underlying ht, MapKept.run_getObj_map hb, K.check w _ hkey, h1, MapKept.run_setObj_map _ hb, Result.andThen, setBlock], ⟨es.eraseIdxIfInBounds j, clock, hset _, stamped_erase hs j, rfl, ?_⟩, .inr ⟨(es.toList.take j).map (fun e => (e.key, e.val)), e0.val, (es.toList.drop (j + 1)).map (fun e => (e.key, e.val)), ?_, ?_⟩⟩
    · intro x hx
      rw [hlist] at hx
      simp only [List.mem_append] at hx
      rcases hx with hx | hx
      · exact hk x (List.mem_of_mem_take hx)
      · exact hk x (List.mem_of_mem_drop hx)
    · conv => lhs; rw [hsp]
      simp [h3]
    · rw [hlist]
      simp

theorem setBlock_self {w : World} {b : Nat} (h : b < w.heap.size) (o : Obj) : (setBlock w b o).heap[b]? = some o := by simp [setBlock, h]
theorem setBlock_other {w : World} {b k : Nat} (h : k ≠ b) (o : Obj) : (setBlock w b o).heap[k]? = w.heap[k]? := by
  simp only [setBlock]
  rw [Array.getElem?_setIfInBounds_ne (fun e => h e.symm)]
theorem setBlock_size (w : World) (b : Nat) (o : Obj) : (setBlock w b o).heap.size = w.heap.size := by simp [setBlock]

/-- The iterator's step, wherever its block lies: nothing is left, or one entry that is left, whichever. -/
theorem next (w : World) (ty : TypeId) (it bm since c0 : Nat) (seen : Array Nat) (es : Array MapEntry) (clock : Nat) (hit : w.heap[it]? = some (.mapIter (some bm) since seen c0)) (hb : w.heap[bm]? = some (.map es clock)) (hold : ∀ x ∈ es.toList, x.born < since) (hsc : since ≤ c0) :
    ((leftOf es seen).size = 0 ∧ (Instr.next (.pointer (some ⟨it, 0, none⟩)) false ty).run P w = .ok (.tuple #[.bool false]) w) ∨
    ∃ e ∈ (leftOf es seen).toList, ∃ w1 : World, (w1 = w ∨ w1 = w.drew) ∧ (Instr.next (.pointer (some ⟨it, 0, none⟩)) false ty).run P w = .ok (.tuple #[.bool true, e.key, e.val]) (setBlock w1 it (.mapIter (some bm) since (seen.push e.born) clock)) := by
  have hget : (getObj it : Sem Obj).run P w = .ok (.mapIter (some bm) since seen c0) w := by simp [getObj, Sem.run, hit]
  have hgetm : (getObj bm : Sem Obj).run P w = .ok (.map es clock) w := by simp [getObj, Sem.run, hb]
  have e1 : (leftOf es seen).filter (fun x => decide (x.born < since)) = leftOf es seen := Array.filter_eq_self.2 (fun x hx => by
    have := mem_left (by simpa using hx); simpa using hold x this.1)
  have e2 : (leftOf es seen).filter (fun x => decide (x.born ≥ since)) = #[] := by
    rw [Array.filter_eq_empty_iff]
    intro x hx
    have := hold x (mem_left (by simpa using hx)).1
    simp; omega
  have hl : leftOf es seen = es.filter (fun e => !seen.contains e.born) := rfl
  simp only [Instr.next, Sem.run_bind, hget, hgetm, Result.andThen, next_test_false seen es since c0 hold hsc, Bool.false_eq_true, if_false, ← hl, e1, e2, Array.append_empty]
  by_cases h0 : (leftOf es seen).size = 0
  · left
    have : leftOf es seen = #[] := Array.eq_empty_of_size_eq_zero h0
    refine ⟨h0, ?_⟩
    simp [this, choose, Sem.run, Question.forced]
  · right
    have hne : (leftOf es seen).isEmpty = false := by simp [Array.isEmpty, h0]
    simp only [hne, Bool.false_eq_true, if_false, Array.empty_append, Array.size_map]
    obtain ⟨j, w1, hj, hw, hr⟩ : ∃ (j : Nat) (w1 : World), j < (leftOf es seen).size ∧ (w1 = w ∨ w1 = w.drew) ∧ (choose (Question.mapNext (leftOf es seen).size)).run P w = .ok j w1 := by
      by_cases hf : (leftOf es seen).size ≤ 1
      · exact ⟨0, w, by omega, .inl rfl, by simp [choose, Sem.run, Question.forced, hf]⟩
      · exact ⟨_, w.drew, Nat.mod_lt _ (by omega), .inr rfl, by
          simp only [choose, Sem.run, Question.forced, decide_eq_true_eq, hf, if_false, Question.cut]; rfl⟩
    have hit1 : w1.heap[it]? = some (.mapIter (some bm) since seen c0) := by rcases hw with rfl | rfl <;> exact hit
    refine ⟨(leftOf es seen)[j], by simp, w1, hw, ?_⟩
    have hset : ∀ o', (setObj it o' : Sem Unit).run P w1 = .ok () (setBlock w1 it o') := fun o' => by simp [setObj, Sem.run, hit1, setBlock]
    simp only [hr, Array.getElem?_map, Array.getElem?_eq_getElem hj, Option.map_some, Sem.run_bind, hset, Result.andThen]
    rfl
/-- What the round then reads: the entry that came last. -/
theorem entry (w : World) (it bm since : Nat) (seen : Array Nat) (es : Array MapEntry) (clock : Nat) (e : MapEntry) (hit : w.heap[it]? = some (.mapIter (some bm) since (seen.push e.born) clock)) (hb : w.heap[bm]? = some (.map es clock)) (he : e ∈ es.toList) (hn : (es.toList.map (·.born)).Nodup) :
    (Instr.entry (.pointer (some ⟨it, 0, none⟩))).run P w = .ok (.tuple #[e.key, e.val]) w := by
  have hget : (getObj it : Sem Obj).run P w = .ok (.mapIter (some bm) since (seen.push e.born) clock) w := by simp [getObj, Sem.run, hit]
  have hgetm : (getObj bm : Sem Obj).run P w = .ok (.map es clock) w := by simp [getObj, Sem.run, hb]
  have hf : es.find? (fun x => x.born == e.born) = some e := by
    rw [← Array.find?_toList]; exact find_born e es.toList hn he
  simp [Instr.entry, Sem.run_bind, hget, hgetm, Result.andThen, hf]
theorem iterSeen_at {w : World} {it : Nat} {a : Option Nat} {b c : Nat} {s : Array Nat} (h : w.heap[it]? = some (.mapIter a b s c)) : w.iterSeen it = s := by
  unfold World.iterSeen; rw [h]
theorem below_setBlock {B : Nat} {a w : World} (h : Below B a w) {k : Nat} (hk : B ≤ k) (o : Obj) : Below B a (setBlock w k o) :=
  h.trans ⟨rfl, rfl, rfl, by simp [setBlock], fun i hi => setBlock_other (by omega) o⟩
end Go.Proofs.YtcioejacijkbcaaGreatDoor.Mp
