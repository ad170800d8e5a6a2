/- A disk, file by file: what its calls leave of each name. -/
import Derived.Test.YtcioejacijkbcaaGreatDoorVdM
import Derived.Test.YtcioejacijkbcaaGreatDoorVdO
import Derived.Test.YtcioejacijkbcaaGreatDoorSgF
import Derived.Test.YtcioejacijkbcaaGreatDoorSgI
import Derived.Test.YtcioejacijkbcaaGreatDoorShelf
import Derived.Test.YtcioejacijkbcaaGreatDoorBaP
namespace Go.Proofs.YtcioejacijkbcaaGreatDoor.Lg
open Go.RowKit Go.Maps Go.ChangeMaps Go.WideMaps Go.Proofs.YtcioejacijkbcaaGreatDoor.Vd
set_option linter.unusedVariables false
/-- the bytes of a name's file -/
def look (fs : List Fil) (s : ByteArray) : Option (List UInt8) := (fs.find? (fun f => decide (f.name = s))).map Fil.b
theorem look_none {fs : List Fil} {s : ByteArray} : look fs s = none ↔ ∀ f ∈ fs, f.name ≠ s := by
  unfold look
  simp
theorem look_app (l1 l2 : List Fil) (s : ByteArray) : look (l1 ++ l2) s = (look l1 s).or (look l2 s) := by
  unfold look
  rw [List.find?_append]
  cases h : l1.find? (fun f => decide (f.name = s)) <;> simp
theorem look_cons (f : Fil) (l : List Fil) (s : ByteArray) : look (f :: l) s = if f.name = s then some f.b else look l s := by
  unfold look
  rw [List.find?_cons]
  by_cases h : f.name = s
  · simp [h]
  · simp [h]
theorem look_some {fs : List Fil} {s : ByteArray} {l : List UInt8} (h : look fs s = some l) : ∃ l1 f l2, fs = l1 ++ f :: l2 ∧ f.name = s ∧ f.b = l ∧ look l1 s = none := by
  induction fs with
  | nil => simp [look] at h
  | cons g fs ih =>
    rw [look_cons] at h
    by_cases hg : g.name = s
    · rw [if_pos hg] at h
      cases h
      exact ⟨[], g, fs, rfl, hg, rfl, rfl⟩
    · rw [if_neg hg] at h
      obtain ⟨l1, f, l2, rfl, h1, h2, h3⟩ := ih h
      exact ⟨g :: l1, f, l2, rfl, h1, h2, by rw [look_cons, if_neg hg]; exact h3⟩
theorem look_mid (l1 l2 : List Fil) (f : Fil) (n : ByteArray) (hn : f.name ≠ n) : look (l1 ++ f :: l2) n = look (l1 ++ l2) n := by
  rw [look_app, look_app, look_cons, if_neg hn]
theorem look_at (l1 l2 : List Fil) (f : Fil) (h : look l1 f.name = none) : look (l1 ++ f :: l2) f.name = some f.b := by
  rw [look_app, look_cons, if_pos rfl, h]; rfl
theorem total_mid (l1 l2 : List Fil) (f : Fil) : total (l1 ++ f :: l2) = total (l1 ++ l2) + f.b.length := by simp [total]; omega
section
variable {w : World} {bd bm room : Nat} {fs : List Fil}
theorem d_append (D : DiskAt w bd bm room fs) (s t : ByteArray) (hG : Vd.Good s) (hlen : fs.length < 256) (h : total fs + t.size ≤ room) :
    Calls Tryz.prog 60 #[.pointer (some ⟨bd, 0, none⟩), .string s, .string t] w fun e w' => e = .returned (.int .i64 0) ∧ ∃ fs', Evolves w w' bd bm room fs fs' ∧
      look fs' s = some ((look fs s).getD [] ++ t.data.toList) ∧ (∀ n, n ≠ s → look fs' n = look fs n) ∧ total fs' = total fs + t.size ∧ fs'.length ≤ fs.length + 1 := by
  have hts : t.data.toList.length = t.size := by rw [Array.length_toList]; rfl
  cases hl : look fs s with
  | none =>
    refine (append_new D s t hG (look_none.1 hl) hlen h).mono ?_
    rintro e w' ⟨rfl, bf, v', hE⟩
    refine ⟨rfl, _, hE, ?_, fun n hn => ?_, ?_, by simp⟩
    · rw [look_app, hl, look_cons, if_pos rfl]; rfl
    · rw [look_app, look_cons, if_neg (fun e => hn e.symm)]
      cases look fs n <;> rfl
    · simp [total, hts]
  | some l =>
    obtain ⟨l1, f, l2, rfl, hn, hb, h1⟩ := look_some hl
    refine (append_some f D s t hn h).mono ?_
    rintro e w' ⟨rfl, v', hE⟩
    refine ⟨rfl, _, hE, ?_, fun n hne => ?_, ?_, by simp⟩
    · have := look_at l1 l2 { f with v := v', b := f.b ++ t.data.toList } (by show look l1 f.name = none; rw [hn]; exact h1)
      have e : ({ f with v := v', b := f.b ++ t.data.toList } : Fil).name = s := hn
      have h2 : look (l1 ++ { f with v := v', b := f.b ++ t.data.toList } :: l2) s = some (f.b ++ t.data.toList) := by rw [← e]; exact this
      rw [h2, hb]; rfl
    · rw [look_mid _ _ _ _ (by show f.name ≠ n; rw [hn]; exact fun e => hne e.symm), look_mid _ _ f _ (by rw [hn]; exact fun e => hne e.symm)]
    · rw [total_mid, total_mid]; simp [hts]; omega
theorem d_sync (D : DiskAt w bd bm room fs) (s : ByteArray) (l : List UInt8) (hl : look fs s = some l) :
    Calls Tryz.prog 63 #[.pointer (some ⟨bd, 0, none⟩), .string s] w fun e w' => e = .returned (.int .i64 0) ∧ ∃ fs', Evolves w w' bd bm room fs fs' ∧ (∀ n, look fs' n = look fs n) ∧ total fs' = total fs ∧ fs'.length = fs.length := by
  obtain ⟨l1, f, l2, rfl, hn, hb, h1⟩ := look_some hl
  refine (sync_some f D s hn).mono ?_
  rintro e w' ⟨rfl, hE⟩
  refine ⟨rfl, _, hE, fun n => ?_, by rw [total_mid, total_mid], by simp⟩
  rw [look_app, look_app, look_cons, look_cons]
theorem d_size_some (D : DiskAt w bd bm room fs) (s : ByteArray) (l : List UInt8) (hl : look fs s = some l) :
    Calls Tryz.prog 29 #[.pointer (some ⟨bd, 0, none⟩), .string s] w fun e w' => e = .returned (.int .i64 l.length) ∧ Below w.heap.size w w' := by
  obtain ⟨l1, f, l2, rfl, hn, rfl, h1⟩ := look_some hl
  exact size_some D f (by simp) s hn
theorem d_read_some (D : DiskAt w bd bm room fs) (s : ByteArray) (l : List UInt8) (hl : look fs s = some l) (at_ n : Nat) (h : at_ + n ≤ l.length) :
    Calls Tryz.prog 28 #[.pointer (some ⟨bd, 0, none⟩), .string s, .int .i64 at_, .int .i64 n] w fun e w' => e = .returned (.tuple #[.string (str ((l.drop at_).take n)), .int .i64 0]) ∧ Below w.heap.size w w' := by
  obtain ⟨l1, f, l2, rfl, hn, rfl, h1⟩ := look_some hl
  exact read_some D f (by simp) s hn at_ n h
theorem d_rename (D : DiskAt w bd bm room fs) (s tn : ByteArray) (hto : Vd.Good tn) (hne : s ≠ tn) (l : List UInt8) (hl : look fs s = some l) :
    Calls Tryz.prog 64 #[.pointer (some ⟨bd, 0, none⟩), .string s, .string tn] w fun e w' => e = .returned (.int .i64 0) ∧ ∃ fs', Evolves w w' bd bm room fs fs' ∧
      look fs' tn = some l ∧ look fs' s = none ∧ (∀ n, n ≠ s → n ≠ tn → look fs' n = look fs n) ∧ total fs' ≤ total fs ∧ fs'.length ≤ fs.length := by
  have hN := D.names
  obtain ⟨l1, f, l2, rfl, hn, rfl, h1⟩ := look_some hl
  refine (rename_some f D s tn hn hto).mono ?_
  rintro e w' ⟨rfl, fs', hR, hE⟩
  have hno : look (l1 ++ l2) s = none := by
    rw [look_none]
    intro g hg e
    rw [List.map_append, List.map_cons, List.nodup_append] at hN
    obtain ⟨n1, n2, n3⟩ := hN
    rw [List.nodup_cons] at n2
    rcases List.mem_append.1 hg with hg | hg
    · exact n3 g.name (List.mem_map_of_mem hg) f.name (by simp) (by rw [e, hn])
    · exact n2.1 (by rw [hn, ← e]; exact List.mem_map_of_mem hg)
  refine ⟨rfl, fs', hE, ?_⟩
  have hfn : ({ f with name := tn } : Fil).name = tn := rfl
  have hfb : ({ f with name := tn } : Fil).b = f.b := rfl
  have hfl : ∀ n, n ≠ s → look (l1 ++ f :: l2) n = look (l1 ++ l2) n := fun n h => look_mid _ _ _ _ (by rw [hn]; exact fun e => h e.symm)
  rcases hR with ⟨hab, rfl⟩ | ⟨m1, g, m2, he, hg, rfl⟩
  · refine ⟨?_, ?_, fun n h2 h3 => ?_, ?_, by first | (simp; done) | (simp; omega)⟩
    · rw [look_app, look_none.2 hab, look_cons, if_pos rfl]
      try rfl
    · rw [look_app, hno, look_cons, if_neg (fun e => hne e.symm)]
      try rfl
    · rw [hfl n h2, look_app, look_cons, if_neg (fun e => h3 e.symm)]
      cases look (l1 ++ l2) n <;> rfl
    · rw [total_mid]; simp [total]; omega
  · have hm1 : look m1 tn = none := by
      rw [look_none]
      intro x hx e
      have hnd : ((l1 ++ l2).map Fil.name).Nodup := by
        rw [List.map_append, List.map_cons] at hN
        rw [List.map_append]
        exact hN.sublist (List.Sublist.append_left (List.sublist_cons_self _ _) _)
      rw [he, List.map_append, List.map_cons, List.nodup_append] at hnd
      exact hnd.2.2 x.name (List.mem_map_of_mem hx) g.name (by simp) (by rw [e, hg])
    have hlen : (m1 ++ ({ f with name := tn } : Fil) :: m2).length = (l1 ++ l2).length := by rw [he]; simp
    refine ⟨?_, ?_, fun n h2 h3 => ?_, ?_, by rw [hlen]; simp⟩
    · exact look_at m1 m2 { f with name := tn } hm1
    · rw [look_mid _ _ _ _ (by rw [hfn]; exact fun e => hne e.symm)]
      rw [he, look_mid _ _ g _ (by rw [hg]; exact fun e => hne e.symm)] at hno
      exact hno
    · rw [look_mid _ _ _ _ (by rw [hfn]; exact fun e => h3 e.symm), hfl n h2, he, look_mid _ _ g _ (by rw [hg]; exact fun e => h3 e.symm)]
    · rw [total_mid, total_mid, he, total_mid]; show _ + f.b.length ≤ _; omega
end
end Go.Proofs.YtcioejacijkbcaaGreatDoor.Lg
/- segment: one of many files of a disk: Append, Open, Sync. -/
namespace Go.Proofs.YtcioejacijkbcaaGreatDoor.Lg
open Go.RowKit Go.Maps Go.ChangeMaps Go.WideMaps Go.Proofs.YtcioejacijkbcaaGreatDoor.Vd Go.Proofs.YtcioejacijkbcaaGreatDoor.Rc Go.Proofs.YtcioejacijkbcaaGreatDoor.Sg
set_option linter.unusedVariables false
/-- a segment's cells, and its file -/
structure SegIn (w : World) (bs bd : Nat) (name : ByteArray) (base : Nat) (fs : List Fil) (xs : List Bat) (mv : Value) : Prop where
  seg : SgAt w bs bd name base (endOf base xs) (text xs).length xs.length mv (marks xs)
  chain : Chain base xs
  good : Vd.Good name
  file : look fs name = some (text xs) ∨ (look fs name = none ∧ xs = [])
theorem SegIn.had {w : World} {bs bd : Nat} {name : ByteArray} {base : Nat} {fs : List Fil} {xs : List Bat} {mv : Value} (h : SegIn w bs bd name base fs xs mv) : (look fs name).getD [] = text xs := by
  rcases h.file with g | ⟨g, rfl⟩ <;> rw [g] <;> rfl
/-- what Append of the next batch leaves -/
structure Grew (w w' : World) (bs bd bm room : Nat) (name : ByteArray) (base : Nat) (fs : List Fil) (xs : List Bat) (mv : Value) (x : Bat) (fs' : List Fil) (mv' : Value) : Prop where
  disk : DiskAt w' bd bm room fs'
  seg : SegIn w' bs bd name base fs' (xs ++ [x]) mv'
  other : ∀ n, n ≠ name → look fs' n = look fs n
  tot : total fs' = total fs + x.l.length
  few : fs'.length ≤ fs.length + 1
  touch : Vd.Touch (fun k => k = bs ∨ mv.ownBlock = some k ∨ DiskB bd bm fs k) w w'
  newD : ∀ k, DiskB bd bm fs' k → DiskB bd bm fs k ∨ w.heap.size ≤ k
  newM : ∀ k, mv'.ownBlock = some k → mv.ownBlock = some k ∨ w.heap.size ≤ k
  apart : ∀ k, mv'.ownBlock = some k → ¬ DiskB bd bm fs' k
theorem seg_in_append {w : World} {bs bd bm room : Nat} {name : ByteArray} {base : Nat} {fs : List Fil} {xs : List Bat} {mv : Value} (D : DiskAt w bd bm room fs) (h : SegIn w bs bd name base fs xs mv) (ap1 : ¬ DiskB bd bm fs bs) (ap2 : ∀ k, mv.ownBlock = some k → ¬ DiskB bd bm fs k)
    (x : Bat) (hx : x.Ok) (hb : x.b = endOf base xs) (hn : xs.length ≤ 1048576) (hlen : fs.length < 256) (hr : total fs + x.l.length ≤ room) (htx : (text xs).length ≤ 16777216) :
    Calls Tryz.prog 26 #[.pointer (some ⟨bs, 0, none⟩), .string (Bt.str x.l)] w fun e w' => e = .returned (.int .i64 0) ∧ ∃ fs' mv', Grew w w' bs bd bm room name base fs xs mv x fs' mv' := by
  have S := h.seg
  have hml := marks_length xs
  have hss := Bt.str_size x.l
  have HD : ∀ W, Below w.heap.size w W → Calls Tryz.prog 60 #[.pointer (some ⟨bd, 0, none⟩), .string name, .string (Bt.str x.l)] W fun e w' => e = .returned (.int .i64 0) ∧
      (∃ fs', Evolves W w' bd bm room fs fs' ∧ look fs' name = some (text xs ++ x.l) ∧ (∀ n, n ≠ name → look fs' n = look fs n) ∧ total fs' = total fs + x.l.length ∧ fs'.length ≤ fs.length + 1) ∧
      SgAt w' bs bd name base (endOf base xs) (text xs).length xs.length mv (marks xs) ∧ ∀ k, w.heap.size ≤ k → k < W.heap.size → w'.heap[k]? = W.heap[k]? := by
    intro W hW
    refine (d_append (D.below hW) name (Bt.str x.l) h.good hlen (by rw [hss]; exact hr)).mono ?_
    rintro e w' ⟨rfl, fs', hE, l1, l2, l3, l4⟩
    rw [h.had, Bt.str_data] at l1
    rw [hss] at l3
    refine ⟨rfl, ⟨fs', hE, l1, l2, l3, l4⟩, (h.seg.below hW).evolved hE ap1 ap2, fun k hk1 hk2 => hE.touch.block k hk2 fun hD => ?_⟩
    have := D.lt k hD
    omega
  rw [← hb] at S HD
  refine (append_next x S hx (Bt.str x.l) (Bt.str_data _) (by omega) (by omega) (by omega) 0 (fun W w' => ∃ fs', Evolves W w' bd bm room fs fs' ∧ look fs' name = some (text xs ++ x.l) ∧ (∀ n, n ≠ name → look fs' n = look fs n) ∧ total fs' = total fs + x.l.length ∧ fs'.length ≤ fs.length + 1) HD).mono ?_
  rintro e w' ⟨rfl, W, w1, hbW, ⟨fs', hE, l1, l2, l3, l4⟩, hor⟩
  rcases hor with ⟨h0, _⟩ | ⟨_, mv', hS', hT, hN⟩
  · exact absurd rfl h0
  have hbs := Vd.lt_of_heap S.cell
  have hown : ∀ k, mv.ownBlock = some k → k < w.heap.size := fun k hk => (World.ownsRow.lt S.own k hk).2
  have hWs := hbW.size
  have hnb : ∀ k, DiskB bd bm fs' k → ¬ (k = bs ∨ mv.ownBlock = some k) := by
    intro k hk hc
    rcases hE.new k hk with h1 | h1
    · rcases hc with rfl | hc
      · exact ap1 h1
      · exact ap2 k hc h1
    · rcases hc with rfl | hc
      · omega
      · have := hown k hc; omega
  refine ⟨rfl, fs', mv', ⟨hE.disk.kept fun k hk => hT.block k (hE.disk.lt k hk) (hnb k hk), ⟨?_, h.chain.snoc hx hb, h.good, .inl (by rw [l1, text_snoc])⟩, l2, l3, l4, ?_, ?_, ?_, ?_⟩⟩
  · rw [endOf_snoc, text_snoc, marks_snoc, List.length_append, List.length_append, ← hb]
    exact hS'
  · have t1 : Vd.Touch (fun k => k = bs ∨ mv.ownBlock = some k ∨ DiskB bd bm fs k) w W := Vd.Touch.ofBelow hbW
    have t2 := t1.trans hE.touch (fun x hx => .inl (.inr (.inr hx)))
    exact t2.trans hT (fun x hx => .inl (hx.imp id .inl))
  · intro k hk
    rcases hE.new k hk with h1 | h1
    · exact .inl h1
    · exact .inr (by omega)
  · intro k hk
    rcases hN k hk with h1 | h1
    · exact .inl h1
    · have := hE.touch.size; exact .inr (by omega)
  · intro k hk hD
    rcases hN k hk with h1 | h1
    · exact hnb k hD (.inr h1)
    · have := hE.disk.lt k hD; omega
end Go.Proofs.YtcioejacijkbcaaGreatDoor.Lg
/- seglog: a segment's name, a manifest's line, for small numbers. -/
namespace Go.Proofs.YtcioejacijkbcaaGreatDoor.Lg
open Go.RowKit Go.Maps Go.ChangeMaps Go.WideMaps Go.Proofs.YtcioejacijkbcaaGreatDoor.Vd
set_option linter.unusedVariables false
theorem genw' {P : Program} {c : Code} {Q : Exit → Act → World → Prop} {a : Act} {w : World} (h : ∀ W, W = w → Code.wp P c Q a W) : Code.wp P c Q a w := h w rfl
theorem pow2_no (w : World) : Calls Tryz.prog 204 #[.int .i64 36] w fun e w' => e = .returned (.bool false) ∧ w = w' := by
  go_enter Tryz.func204, Tryz.ntmps204
  go_wp2
  go_ret
  exact ⟨rfl, rfl⟩
/-- a text of one byte, in an array -/
theorem one_at (W : World) (b o : Nat) (x : Nat) (hx : x < 256) (h : W.cell? ⟨b, o, none⟩ = some (.int .u8 (x : Int))) :
    (convert 60 9 (.slice (some ⟨b, o, none⟩) 1 1)).run Tryz.prog W = .ok (.string { data := #[UInt8.ofNat x] }) W := by
  rw [run_convert_bytes_arg (P := Tryz.prog) _ _ _ Tryz.underlying60 Tryz.underlying5 b o 1 1 [x] (by simp) ?_ _ Tryz.underlying9]
  · congr 2
  · intro j hj
    obtain rfl : j = 0 := by simpa using hj
    simpa using h
set_option maxRecDepth 100000 in
set_option maxHeartbeats 2000000 in
theorem bits36 (w : World) (u : Nat) (c : Nat) (hu : (u = 0 ∧ c = 48) ∨ (u = 3 ∧ c = 51)) :
    Calls Tryz.prog 155 #[.slice none 0 0, .int .u64 u, .int .i64 36, .bool false, .bool false] w fun e w' => e = .returned (.tuple #[.slice none 0 0, .string { data := #[UInt8.ofNat c] }]) ∧ Below w.heap.size w w' := by
  rcases hu with ⟨rfl, rfl⟩ | ⟨rfl, rfl⟩
  · skip
    go_enter Tryz.func155, Tryz.ntmps155
    go_wp2_with fail
    refine (pow2_no _).mono ?_
    rintro e w1 ⟨rfl, rfl⟩
    go_wp2_with fail
    refine genw' ?_
    intro W hW
    have hcell : ∃ cs : Array Value, cs.size = 65 ∧ W.heap[w.heap.size]? = some (.cells cs 246 (0, 0)) := by
      rw [hW]
      exact ⟨_, rfl, heap_alloc_new w _⟩
    have hBW : Below w.heap.size w W := by rw [hW]; exact (Below.refl _ _).alloc (Nat.le_refl _) _
    clear hW
    have HBW := Lib.hid hBW
    have HC := Lib.hid hcell
    clear hBW hcell
    go_loopw [1, 13] (fun v i V => v = .int .u64 0 ∧ i = .int .i64 65 ∧ V = W) (fun _ _ _ => 0)
    case atStart => exact ⟨rfl, rfl, rfl⟩
    case round =>
      obtain ⟨rfl, rfl, rfl⟩ := hrel
      obtain ⟨cs, hcs, hb⟩ := HC.out
      have hfz := fun j => Lib.frozen_of_heap hb j
      have hcl : wr.cell? ⟨w.heap.size, 64, none⟩ = cs[64]? := by rw [cell_of hb]
      rw [Array.getElem?_eq_getElem (by omega)] at hcl
      go_wp2_with fail
      rw [one_at _ w.heap.size 64 48 (by decide) (by rw [cell_of (Vd.setCell_block hb 64 _), Array.getElem?_setIfInBounds_self_of_lt (by omega)]; rfl)]
      go_wp2
      go_ret2
      exact ⟨rfl, HBW.out.setCell (p := ⟨w.heap.size, 64, none⟩) (Nat.le_refl _) _⟩
  · skip
    go_enter Tryz.func155, Tryz.ntmps155
    go_wp2_with fail
    refine (pow2_no _).mono ?_
    rintro e w1 ⟨rfl, rfl⟩
    go_wp2_with fail
    refine genw' ?_
    intro W hW
    have hcell : ∃ cs : Array Value, cs.size = 65 ∧ W.heap[w.heap.size]? = some (.cells cs 246 (0, 0)) := by
      rw [hW]
      exact ⟨_, rfl, heap_alloc_new w _⟩
    have hBW : Below w.heap.size w W := by rw [hW]; exact (Below.refl _ _).alloc (Nat.le_refl _) _
    clear hW
    have HBW := Lib.hid hBW
    have HC := Lib.hid hcell
    clear hBW hcell
    go_loopw [1, 13] (fun v i V => v = .int .u64 3 ∧ i = .int .i64 65 ∧ V = W) (fun _ _ _ => 0)
    case atStart => exact ⟨rfl, rfl, rfl⟩
    case round =>
      obtain ⟨rfl, rfl, rfl⟩ := hrel
      obtain ⟨cs, hcs, hb⟩ := HC.out
      have hfz := fun j => Lib.frozen_of_heap hb j
      have hcl : wr.cell? ⟨w.heap.size, 64, none⟩ = cs[64]? := by rw [cell_of hb]
      rw [Array.getElem?_eq_getElem (by omega)] at hcl
      go_wp2_with fail
      rw [one_at _ w.heap.size 64 51 (by decide) (by rw [cell_of (Vd.setCell_block hb 64 _), Array.getElem?_setIfInBounds_self_of_lt (by omega)]; rfl)]
      go_wp2
      go_ret2
      exact ⟨rfl, HBW.out.setCell (p := ⟨w.heap.size, 64, none⟩) (Nat.le_refl _) _⟩
def dg (u : Nat) : Nat := 48 + u
theorem fmt36 (w : World) (u : Nat) (hu : u = 0 ∨ u = 3) :
    Calls Tryz.prog 114 #[.int .i64 u, .int .i64 36] w fun e w' => e = .returned (.string { data := #[UInt8.ofNat (dg u)] }) ∧ Below w.heap.size w w' := by
  have HB := Lib.hid (fun w => bits36 w u (dg u) (by rcases hu with rfl | rfl <;> simp [dg]))
  have h3 : (u : Int) ≤ 3 := by rcases hu with rfl | rfl <;> decide
  have h0 : ¬ (u : Int) < 0 := by omega
  have hw : IntKind.u64.wrap (u : Int) = (u : Int) := by rcases hu with rfl | rfl <;> rfl
  clear hu
  go_enter Tryz.func114, Tryz.ntmps114
  go_wp2_with fail
  refine (HB.out _).mono ?_
  rintro e w1 ⟨rfl, hb⟩
  go_wp2
  go_ret
  exact ⟨rfl, hb⟩
theorem fmt36' (w : World) (u : Nat) (hu : u = 0 ∨ u = 3) :
    Calls Tryz.prog 72 #[.int .i64 u, .int .i64 36] w fun e w' => e = .returned (.string { data := #[UInt8.ofNat (dg u)] }) ∧ Below w.heap.size w w' := by
  have HB := Lib.hid (fun w => fmt36 w u hu)
  clear hu
  go_enter Tryz.func72, Tryz.ntmps72
  go_wp2_with fail
  refine (HB.out _).mono ?_
  rintro e w1 ⟨rfl, hb⟩
  go_wp2
  go_ret
  exact ⟨rfl, hb⟩
/-- a segment's file -/
def nm (u : Nat) : ByteArray := { data := #[115, 101, 103] } ++ { data := #[UInt8.ofNat (dg u)] } ++ { data := #[46] } ++ { data := #[48] }
theorem nm0 : nm 0 = { data := #[115, 101, 103, 48, 46, 48] } := rfl
theorem nm3 : nm 3 = { data := #[115, 101, 103, 51, 46, 48] } := rfl
theorem named (w : World) (u : Nat) (hu : u = 0 ∨ u = 3) :
    Calls Tryz.prog 37 #[.int .i64 u, .int .i64 0] w fun e w' => e = .returned (.string (nm u)) ∧ Below w.heap.size w w' := by
  have HB := Lib.hid (fun w => fmt36' w u hu)
  have H0 := Lib.hid (fun w => fmt36' w 0 (.inl rfl))
  clear hu
  obtain ⟨D, hD⟩ : ∃ D : ByteArray, D = { data := #[UInt8.ofNat (dg u)] } := ⟨_, rfl⟩
  rw [← hD] at HB
  have hsz : D.size = 1 := by rw [hD]; rfl
  have HD := Lib.hid hD
  clear hD
  go_enter Tryz.func37, Tryz.ntmps37
  go_wp2_with fail
  refine (HB.out _).mono ?_
  rintro e w1 ⟨rfl, hb1⟩
  have HB1 := Lib.hid hb1
  clear hb1
  go_wp2_with fail
  refine (H0.out _).mono ?_
  rintro e w2 ⟨rfl, hb2⟩
  have HB2 := Lib.hid (HB1.out.trans (hb2.mono HB1.out.size))
  clear hb2
  go_wp2
  go_ret
  refine ⟨?_, HB2.out⟩
  rw [HD.out]
  rfl
/-- a manifest's line -/
def ln (u : Nat) : ByteArray := { data := #[UInt8.ofNat (dg u)] } ++ { data := #[32] } ++ { data := #[48] } ++ { data := #[10] }
theorem listed (w : World) (u : Nat) (hu : u = 0 ∨ u = 3) :
    Calls Tryz.prog 31 #[.int .i64 u, .int .i64 0] w fun e w' => e = .returned (.string (ln u)) ∧ w = w' := by
  have hi := fun (n : Nat) (hn : n = 0 ∨ n = 3) (w : World) => Tryz.strconv_Itoa_small n (by omega) w
  have e0 : (⟨(Lib.decDigits 0).toArray⟩ : ByteArray) = { data := #[48] } := by rw [Lib.decDigits]; rfl
  have e3 : (⟨(Lib.decDigits 3).toArray⟩ : ByteArray) = { data := #[51] } := by rw [Lib.decDigits]; rfl
  have hI : ∀ w : World, Calls Tryz.prog 65 #[.int .i64 u] w fun e w' => e = .returned (.string { data := #[UInt8.ofNat (dg u)] }) ∧ w' = w := by
    intro w
    have h := hi u hu w
    rcases hu with rfl | rfl
    · rw [e0] at h; exact h
    · rw [e3] at h; exact h
  have h0 := fun w => hi 0 (.inl rfl) w
  rw [e0] at h0
  have HI := Lib.hid hI
  have H0 := Lib.hid h0
  clear hu hi e0 e3 hI h0
  obtain ⟨D, hD⟩ : ∃ D : ByteArray, D = { data := #[UInt8.ofNat (dg u)] } := ⟨_, rfl⟩
  rw [← hD] at HI
  have hsz : D.size = 1 := by rw [hD]; rfl
  have HD := Lib.hid hD
  clear hD
  go_enter Tryz.func31, Tryz.ntmps31
  go_wp2_with fail
  refine (HI.out _).mono ?_
  rintro e w1 ⟨rfl, hw⟩
  subst hw
  go_wp2_with fail
  refine (H0.out _).mono ?_
  rintro e w1 ⟨rfl, hw⟩
  subst hw
  go_wp2
  go_ret
  exact ⟨by rw [HD.out]; rfl, rfl⟩
end Go.Proofs.YtcioejacijkbcaaGreatDoor.Lg
/- seglog: given; a log that nobody opened. -/
namespace Go.Proofs.YtcioejacijkbcaaGreatDoor.Lg
open Go.RowKit Go.Maps Go.ChangeMaps Go.WideMaps Go.Proofs.YtcioejacijkbcaaGreatDoor.Vd
set_option linter.unusedVariables false
def Nobody (w : World) (p : Option Addr) : Prop := ∀ a, p = some a → ∃ b, a = ⟨b, 0, none⟩ ∧ w.cell? ⟨b, 2, none⟩ = some (.slice none 0 0)
theorem given_nil (w : World) : Calls Tryz.prog 20 #[.pointer none] w fun e w' => e = .returned (.bool false) ∧ w = w' := by
  go_enter Tryz.func20, Tryz.ntmps20
  go_wp2
  go_ret
  exact ⟨rfl, rfl⟩
theorem given_any (w : World) (b : Nat) (ap : Option Addr) (n cap : Nat) (h : w.cell? ⟨b, 2, none⟩ = some (.slice ap n cap)) (r : Bool) (hr : decide (0 < n) = r) : Calls Tryz.prog 20 #[.pointer (some ⟨b, 0, none⟩)] w fun e w' => e = .returned (.bool r) ∧ w = w' := by
  subst hr
  go_enter Tryz.func20, Tryz.ntmps20
  go_wp2
  go_ret
  exact ⟨rfl, rfl⟩
theorem given_nobody (w : World) (p : Option Addr) (hp : Nobody w p) : Calls Tryz.prog 20 #[.pointer p] w fun e w' => e = .returned (.bool false) ∧ w = w' := by
  rcases p with _ | a
  · exact given_nil w
  · obtain ⟨b, rfl, hc⟩ := hp a rfl
    exact given_any w b none 0 0 hc false (by simp)
theorem append_nobody (w : World) (p : Option Addr) (s : ByteArray) (hp : Nobody w p) :
    Calls Tryz.prog 9 #[.pointer p, .string s] w fun e w' => e = .returned (.int .i64 1) ∧ w = w' := by
  have HP := Lib.hid hp
  clear hp
  go_enter Tryz.func9, Tryz.ntmps9
  go_wp2_with fail
  refine (given_nobody _ p HP.out).mono ?_
  rintro e w1 ⟨rfl, rfl⟩
  go_wp2
  go_ret
  exact ⟨rfl, rfl⟩
theorem sync_nobody (w : World) (p : Option Addr)  (hp : Nobody w p) :
    Calls Tryz.prog 15 #[.pointer p] w fun e w' => e = .returned (.int .i64 1) ∧ w = w' := by
  have HP := Lib.hid hp
  clear hp
  go_enter Tryz.func15, Tryz.ntmps15
  go_wp2_with fail
  refine (given_nobody _ p HP.out).mono ?_
  rintro e w1 ⟨rfl, rfl⟩
  go_wp2
  go_ret
  exact ⟨rfl, rfl⟩
theorem cut_nobody (w : World) (p : Option Addr) (n : Int) (hp : Nobody w p) :
    Calls Tryz.prog 16 #[.pointer p, .int .i64 n] w fun e w' => e = .returned (.int .i64 1) ∧ w = w' := by
  have HP := Lib.hid hp
  clear hp
  go_enter Tryz.func16, Tryz.ntmps16
  go_wp2_with fail
  refine (given_nobody _ p HP.out).mono ?_
  rintro e w1 ⟨rfl, rfl⟩
  go_wp2
  go_ret
  exact ⟨rfl, rfl⟩
theorem end_nobody (w : World) (p : Option Addr)  (hp : Nobody w p) :
    Calls Tryz.prog 8 #[.pointer p] w fun e w' => e = .returned (.int .i64 0) ∧ w = w' := by
  have HP := Lib.hid hp
  clear hp
  go_enter Tryz.func8, Tryz.ntmps8
  go_wp2_with fail
  refine (given_nobody _ p HP.out).mono ?_
  rintro e w1 ⟨rfl, rfl⟩
  go_wp2
  go_ret
  exact ⟨rfl, rfl⟩
theorem batch_nobody (w : World) (p : Option Addr) (n : Int) (hp : Nobody w p) :
    Calls Tryz.prog 12 #[.pointer p, .int .i64 n] w fun e w' => e = .returned (.tuple #[.string { data := #[] }, .int .i64 1]) ∧ w = w' := by
  have HP := Lib.hid hp
  clear hp
  go_enter Tryz.func12, Tryz.ntmps12
  go_wp2_with fail
  refine (given_nobody _ p HP.out).mono ?_
  rintro e w1 ⟨rfl, rfl⟩
  go_wp2
  go_ret2
  exact ⟨rfl, rfl⟩
theorem batches_nobody (w : World) (p : Option Addr) (n : Int) (hp : Nobody w p) :
    Calls Tryz.prog 13 #[.pointer p, .int .i64 n] w fun e w' => e = .returned (.tuple #[.slice none 0 0, .int .i64 1]) ∧ w = w' := by
  have HP := Lib.hid hp
  clear hp
  go_enter Tryz.func13, Tryz.ntmps13
  go_wp2_with fail
  refine (given_nobody _ p HP.out).mono ?_
  rintro e w1 ⟨rfl, rfl⟩
  go_wp2
  go_ret2
  exact ⟨rfl, rfl⟩
theorem read_nobody (w : World) (p : Option Addr) (n m k : Int) (hp : Nobody w p) :
    Calls Tryz.prog 14 #[.pointer p, .int .i64 n, .int .i64 m, .int .i64 k] w fun e w' => e = .returned (.tuple #[.slice none 0 0, .int .i64 1]) ∧ w = w' := by
  have HP := Lib.hid hp
  clear hp
  go_enter Tryz.func14, Tryz.ntmps14
  go_wp2_with fail
  refine (given_nobody _ p HP.out).mono ?_
  rintro e w1 ⟨rfl, rfl⟩
  go_wp2
  go_ret2
  exact ⟨rfl, rfl⟩
theorem segments_nobody (w : World) (p : Option Addr)  (hp : Nobody w p) :
    Calls Tryz.prog 10 #[.pointer p] w fun e w' => e = .returned (.slice none 0 0) ∧ w = w' := by
  have HP := Lib.hid hp
  clear hp
  go_enter Tryz.func10, Tryz.ntmps10
  go_wp2_with fail
  refine (given_nobody _ p HP.out).mono ?_
  rintro e w1 ⟨rfl, rfl⟩
  go_wp2
  go_ret
  exact ⟨rfl, rfl⟩
theorem swap_nobody (w : World) (p : Option Addr) (n : Int) (v : Value) (hp : Nobody w p) :
    Calls Tryz.prog 17 #[.pointer p, .int .i64 n, v] w fun e w' => e = .returned (.int .i64 1) ∧ Below w.heap.size w w' := by
  have hb := (Below.refl w.heap.size w).alloc (Nat.le_refl _) (.cells #[.int .i64 n] 3)
  have hp' : Nobody (w.alloc (.cells #[.int .i64 n] 3)) p := by
    intro a ha
    obtain ⟨b, h1, h2⟩ := hp a ha
    refine ⟨b, h1, (hb.cell (p := ⟨b, 2, none⟩) ?_).trans h2⟩
    unfold World.cell? at h2
    rcases Nat.lt_or_ge b w.heap.size with h | h
    · exact h
    · rw [Array.getElem?_eq_none h] at h2; cases h2
  have HP := Lib.hid hp'
  have HB := Lib.hid hb
  clear hp hp' hb
  go_enter Tryz.func17, Tryz.ntmps17
  go_wp2_with fail
  refine (given_nobody _ p HP.out).mono ?_
  rintro e w1 ⟨rfl, rfl⟩
  go_wp2
  go_ret
  exact ⟨rfl, HB.out⟩
end Go.Proofs.YtcioejacijkbcaaGreatDoor.Lg
