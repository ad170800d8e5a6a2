/- VdiskRoom returns true, whatever its arguments are. No condition beside the reach that every row has. -/
import Derived.Test.YtpmalnhlbpdohaaVdN
namespace Go.Proofs.Ytpmalnhlbpdohaa.VdRoom
open Go.RowKit Go.Maps Go.ChangeMaps Go.WideMaps Go.Proofs.Ytpmalnhlbpdohaa.Vd
set_option linter.unusedVariables false
/-- the three names -/
def n3 (j : Nat) : ByteArray := if j = 0 then { data := #[97] } else if j = 1 then { data := #[98] } else { data := #[99] }
theorem n3_good (j : Nat) : Vd.Good (n3 j) := by
  unfold n3
  split
  · exact good_a
  · split
    · exact good_str [98] (by decide) (by decide) (by decide)
    · exact good_str [99] (by decide) (by decide) (by decide)
theorem n3_inj {i j : Nat} (hi : i < 3) (hj : j < 3) (h : n3 i = n3 j) : i = j := by
  rcases (show i = 0 ∨ i = 1 ∨ i = 2 from by omega) with rfl | rfl | rfl <;> rcases (show j = 0 ∨ j = 1 ∨ j = 2 from by omega) with rfl | rfl | rfl <;> first | rfl | (exact absurd (congrArg (fun b : ByteArray => b.data.toList) h) (by decide))
def Three (fs : List Fil) : Prop := ∀ f ∈ fs, ∃ j, j < 3 ∧ f.name = n3 j
/-- how many bytes a name's file has -/
def sz (fs : List Fil) (j : Nat) : Nat := match fs.find? (fun f => f.name.data.toList == (n3 j).data.toList) with | some f => f.b.length | none => 0
theorem name_eq {a b : ByteArray} : (a.data.toList == b.data.toList) = true ↔ a = b := by
  rw [beq_iff_eq]
  exact ⟨fun h => ByteArray.ext (Array.toList_inj.1 h), fun h => by rw [h]⟩
theorem find_cases (fs : List Fil) (j : Nat) : (∃ l1 f l2, fs = l1 ++ f :: l2 ∧ f.name = n3 j ∧ sz fs j = f.b.length) ∨ ((∀ f ∈ fs, f.name ≠ n3 j) ∧ sz fs j = 0) := by
  cases h : fs.find? (fun f => f.name.data.toList == (n3 j).data.toList) with
  | none =>
    right
    refine ⟨fun f hf e => ?_, by unfold sz; rw [h]⟩
    have := List.find?_eq_none.1 h f hf
    exact this (name_eq.2 e)
  | some f =>
    left
    obtain ⟨l1, l2, e⟩ := List.append_of_mem (List.mem_of_find?_eq_some h)
    have hp := List.find?_some h
    exact ⟨l1, f, l2, e, name_eq.1 hp, by unfold sz; rw [h]⟩
theorem sz_cons (f : Fil) (fs : List Fil) (j : Nat) : sz (f :: fs) j = if f.name = n3 j then f.b.length else sz fs j := by
  unfold sz
  rw [List.find?_cons]
  by_cases h : f.name = n3 j
  · rw [if_pos h, name_eq.2 h]
  · rw [if_neg h]
    have : (f.name.data.toList == (n3 j).data.toList) = false := by
      rcases hb : (f.name.data.toList == (n3 j).data.toList) with _ | _
      · rfl
      · exact absurd (name_eq.1 hb) h
    rw [this]
theorem sz_none (fs : List Fil) (j : Nat) (h : ∀ f ∈ fs, f.name ≠ n3 j) : sz fs j = 0 := by
  rcases find_cases fs j with ⟨l1, f, l2, rfl, hn, _⟩ | ⟨_, h⟩
  · exact absurd hn (h f (by simp))
  · exact h
theorem total_three : ∀ (fs : List Fil), Three fs → (fs.map Fil.name).Nodup → sz fs 0 + sz fs 1 + sz fs 2 = total fs
  | [], _, _ => rfl
  | f :: fs, h3, hn => by
    simp only [List.map_cons, List.nodup_cons] at hn
    have ih := total_three fs (fun g hg => h3 g (List.mem_cons_of_mem _ hg)) hn.2
    obtain ⟨j, hj, e⟩ := h3 f (by simp)
    have h0 : sz fs j = 0 := sz_none fs j (fun g hg eg => hn.1 (by rw [e, ← eg]; exact List.mem_map_of_mem hg))
    have hz : ∀ i, i < 3 → sz (f :: fs) i = if i = j then f.b.length else sz fs i := by
      intro i hi
      rw [sz_cons, e]
      by_cases c : i = j
      · subst c; rw [if_pos rfl, if_pos rfl]
      · rw [if_neg c, if_neg (fun hh => c (n3_inj hj hi hh).symm)]
    rw [hz 0 (by omega), hz 1 (by omega), hz 2 (by omega)]
    simp only [total, List.map_cons, List.sum_cons] at ih ⊢
    rcases (show j = 0 ∨ j = 1 ∨ j = 2 from by omega) with rfl | rfl | rfl <;> simp at h0 ⊢ <;> omega
/-- A disk of the call's own, and the block of the three names, that is none of the disk's. -/
structure St (w0 w : World) (n bn : Nat) (fs : List Fil) : Prop where
  own : Own w0.heap.size w0 w (w0.heap.size + 1) w0.heap.size n fs
  names : w.heap[bn]? = some (.cells #[.string (n3 0), .string (n3 1), .string (n3 2)] 9 (0, 0))
  off : ¬ DiskB (w0.heap.size + 1) w0.heap.size fs bn
  three : Three fs
theorem St.evolves {w0 w w' : World} {n bn : Nat} {fs fs' : List Fil} (h : St w0 w n bn fs) (hE : Evolves w w' (w0.heap.size + 1) w0.heap.size n fs fs') (h3 : Three fs') : St w0 w' n bn fs' :=
  ⟨h.own.evolves (Nat.le_refl _) hE, (hE.touch.block bn (lt_of_heap h.names) h.off).trans h.names, fun hD => by rcases hE.new bn hD with h1 | h1; exact h.off h1; have := lt_of_heap h.names; omega, h3⟩
theorem St.more {w0 w w' : World} {n bn : Nat} {fs : List Fil} (h : St w0 w n bn fs) (hE : Below w.heap.size w w') : St w0 w' n bn fs :=
  ⟨h.own.more (Nat.le_refl _) hE, (hE.block bn (lt_of_heap h.names)).trans h.names, h.off, h.three⟩
theorem three_len {w0 w : World} {n bn : Nat} {fs : List Fil} (h : St w0 w n bn fs) : fs.length ≤ 3 := by
  have hnd := h.own.disk.names
  have hsub : (fs.map Fil.name) ⊆ [n3 0, n3 1, n3 2] := by
    intro x hx
    obtain ⟨f, hf, rfl⟩ := List.mem_map.1 hx
    obtain ⟨j, hj, e⟩ := h.three f hf
    rw [e]
    rcases (show j = 0 ∨ j = 1 ∨ j = 2 from by omega) with rfl | rfl | rfl <;> simp
  have := List.Nodup.length_le_of_subset hnd hsub
  simpa using this

theorem three_mid {l1 l2 : List Fil} {f f' : Fil} (h : Three (l1 ++ f :: l2)) (hn : f'.name = f.name) : Three (l1 ++ f' :: l2) := by
  intro g hg
  simp only [List.mem_append, List.mem_cons] at hg
  rcases hg with h' | rfl | h'
  · exact h g (by simp [h'])
  · rw [hn]; exact h f (by simp)
  · exact h g (by simp [h'])
theorem three_less {l1 l2 : List Fil} {f : Fil} (h : Three (l1 ++ f :: l2)) : Three (l1 ++ l2) := by
  intro g hg
  simp only [List.mem_append] at hg
  rcases hg with h' | h'
  · exact h g (by simp [h'])
  · exact h g (by simp [h'])
theorem st_remove {w0 w : World} {n bn : Nat} {fs : List Fil} (S : St w0 w n bn fs) (j : Nat) (hj : j < 3) :
    Calls Try.prog 26 #[.pointer (some ⟨w0.heap.size + 1, 0, none⟩), .string (n3 j)] w fun e w' => ∃ r : Int, e = .returned (.int .i64 r) ∧ ∃ fs', St w0 w' n bn fs' := by
  rcases find_cases fs j with ⟨l1, f, l2, rfl, hn, _⟩ | ⟨h, _⟩
  · refine (remove_some f S.own.disk _ hn).mono ?_
    rintro e w' ⟨rfl, E⟩
    exact ⟨_, rfl, _, S.evolves E (three_less S.three)⟩
  · refine (remove_none S.own.disk _ (n3_good j) h).mono ?_
    rintro e w' ⟨rfl, E⟩
    exact ⟨_, rfl, _, S.more E⟩
theorem st_cut {w0 w : World} {n bn : Nat} {fs : List Fil} (S : St w0 w n bn fs) (j k : Nat) (hj : j < 3) :
    Calls Try.prog 29 #[.pointer (some ⟨w0.heap.size + 1, 0, none⟩), .string (n3 j), .int .i64 k] w fun e w' => ∃ r : Int, e = .returned (.int .i64 r) ∧ ∃ fs', St w0 w' n bn fs' := by
  rcases find_cases fs j with ⟨l1, f, l2, rfl, hn, _⟩ | ⟨h, _⟩
  · by_cases hk : k ≤ f.b.length
    · refine (cut_some f S.own.disk _ hn k hk).mono ?_
      rintro e w' ⟨rfl, f', h1, h2, h3, E⟩
      exact ⟨_, rfl, _, S.evolves E (three_mid S.three h1)⟩
    · refine (cut_no f (by simp) S.own.disk _ hn k (by omega)).mono ?_
      rintro e w' ⟨rfl, E⟩
      exact ⟨_, rfl, _, S.more E⟩
  · refine (cut_none S.own.disk _ (n3_good j) h k).mono ?_
    rintro e w' ⟨rfl, E⟩
    exact ⟨_, rfl, _, S.more E⟩
/-- What Append says and does. -/
def AppPost (w0 : World) (n bn : Nat) (fs : List Fil) (k : Nat) (e : Ending) (w' : World) : Prop :=
  (e = .returned (.int .i64 0) ∧ total fs + k ≤ n ∧ ∃ fs', total fs' = total fs + k ∧ St w0 w' n bn fs') ∨ (e = .returned (.int .i64 80) ∧ n < total fs + k ∧ St w0 w' n bn fs)
theorem st_append {w0 w : World} {n bn : Nat} {fs : List Fil} (S : St w0 w n bn fs) (j : Nat) (hj : j < 3) (t : ByteArray) (ht : t.size ≤ 140737488351232) :
    Calls Try.prog 19 #[.pointer (some ⟨w0.heap.size + 1, 0, none⟩), .string (n3 j), .string t] w (AppPost w0 n bn fs t.size) := by
  have htl : t.data.toList.length = t.size := by simp
  rcases find_cases fs j with ⟨l1, f, l2, rfl, hn, _⟩ | ⟨h, _⟩
  · by_cases hr : total (l1 ++ f :: l2) + t.size ≤ n
    · refine (append_some f S.own.disk _ t hn hr).mono ?_
      rintro e w' ⟨rfl, v, E⟩
      exact .inl ⟨rfl, hr, _, by simp only [total_split, List.length_append, htl]; omega, S.evolves E (three_mid (f := f) S.three rfl)⟩
    · refine (append_noroom S.own.disk f (by simp) _ t hn ht (by omega)).mono ?_
      rintro e w' ⟨rfl, E⟩
      exact .inr ⟨rfl, by omega, S.more E⟩
  · have hl := three_len S
    by_cases hr : total fs + t.size ≤ n
    · refine (append_new S.own.disk _ t (n3_good j) h (by omega) hr).mono ?_
      rintro e w' ⟨rfl, bf, v, E⟩
      refine .inl ⟨rfl, hr, _, by simp [total, htl], S.evolves E ?_⟩
      intro g hg
      simp only [List.mem_append, List.mem_singleton] at hg
      rcases hg with hg | rfl
      · exact S.three g hg
      · exact ⟨j, hj, rfl⟩
    · refine (append_noroom_new S.own.disk _ t (n3_good j) h (by omega) ht (by omega)).mono ?_
      rintro e w' ⟨rfl, E⟩
      exact .inr ⟨rfl, by omega, S.more E⟩
theorem st_size {w0 w : World} {n bn : Nat} {fs : List Fil} (S : St w0 w n bn fs) (j : Nat) (hj : j < 3) :
    Calls Try.prog 23 #[.pointer (some ⟨w0.heap.size + 1, 0, none⟩), .string (n3 j)] w fun e w' => ∃ r : Int, e = .returned (.int .i64 r) ∧ max 0 r = (sz fs j : Int) ∧ Below w.heap.size w w' := by
  rcases find_cases fs j with ⟨l1, f, l2, rfl, hn, hz⟩ | ⟨h, hz⟩
  · refine (size_some S.own.disk f (by simp) _ hn).mono ?_
    rintro e w' ⟨rfl, E⟩
    exact ⟨_, rfl, by rw [hz]; omega, E⟩
  · refine (size_none S.own.disk _ (n3_good j) h).mono ?_
    rintro e w' ⟨rfl, E⟩
    exact ⟨_, rfl, by rw [hz]; decide, E⟩
end Go.Proofs.Ytpmalnhlbpdohaa.VdRoom
