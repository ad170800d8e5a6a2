/- A disk, file by file: what its calls leave of each name. -/
import Derived.Test.YtcioejacijkbcaaGreatDoorVdM
import Derived.Test.YtcioejacijkbcaaGreatDoorVdO
import Derived.Test.YtcioejacijkbcaaGreatDoorSgF
import Derived.Test.YtcioejacijkbcaaGreatDoorSgI
import Derived.Test.YtcioejacijkbcaaGreatDoorShelf
import Derived.Test.YtcioejacijkbcaaGreatDoorBaP
import Derived.Lib.AppendIntMem
namespace Go.Proofs.YtcioejacijkbcaaGreatDoor.Lg
open Go.RowKit Go.Maps Go.ChangeMaps Go.WideMaps Go.Proofs.YtcioejacijkbcaaGreatDoor.Vd
set_option linter.unusedVariables false
/-- the bytes of a name's file -/
def look (fs : List Fil) (s : ByteArray) : Option (List UInt8) := (fs.find? (fun f => decide (f.name = s))).map Fil.b
theorem look_none {fs : List Fil} {s : ByteArray} : look fs s = none ↔ ∀ f ∈ fs, f.name ≠ s := by
  unfold look
  simp
theorem look_app (l1 l2 : List Fil) (s : ByteArray) : look (l1 ++ l2) s = (look l1 s).or (look l2 s) := by
  unfold look
  rw [List.find?_append]
  cases h : l1.find? (fun f => decide (f.name = s)) <;> simp
theorem look_cons (f : Fil) (l : List Fil) (s : ByteArray) : look (f :: l) s = if f.name = s then some f.b else look l s := by
  unfold look
  rw [List.find?_cons]
  by_cases h : f.name = s
  · simp [h]
  · simp [h]
theorem look_some {fs : List Fil} {s : ByteArray} {l : List UInt8} (h : look fs s = some l) : ∃ l1 f l2, fs = l1 ++ f :: l2 ∧ f.name = s ∧ f.b = l ∧ look l1 s = none := by
  induction fs with
  | nil => simp [look] at h
  | cons g fs ih =>
    rw [look_cons] at h
    by_cases hg : g.name = s
    · rw [if_pos hg] at h
      cases h
      exact ⟨[], g, fs, rfl, hg, rfl, rfl⟩
    · rw [if_neg hg] at h
      obtain ⟨l1, f, l2, rfl, h1, h2, h3⟩ := ih h
      exact ⟨g :: l1, f, l2, rfl, h1, h2, by rw [look_cons, if_neg hg]; exact h3⟩
theorem look_mid (l1 l2 : List Fil) (f : Fil) (n : ByteArray) (hn : f.name ≠ n) : look (l1 ++ f :: l2) n = look (l1 ++ l2) n := by
  rw [look_app, look_app, look_cons, if_neg hn]
theorem look_at (l1 l2 : List Fil) (f : Fil) (h : look l1 f.name = none) : look (l1 ++ f :: l2) f.name = some f.b := by
  rw [look_app, look_cons, if_pos rfl, h]; rfl
theorem total_mid (l1 l2 : List Fil) (f : Fil) : total (l1 ++ f :: l2) = total (l1 ++ l2) + f.b.length := by simp [total]; omega
section
variable {w : World} {bd bm room : Nat} {fs : List Fil}
theorem d_append (D : DiskAt w bd bm room fs) (s t : ByteArray) (hG : Vd.Good s) (hlen : fs.length < 256) (h : total fs + t.size ≤ room) :
    Calls Tryz.prog 60 #[.pointer (some ⟨bd, 0, none⟩), .string s, .string t] w fun e w' => e = .returned (.int .i64 0) ∧ ∃ fs', Evolves w w' bd bm room fs fs' ∧
      look fs' s = some ((look fs s).getD [] ++ t.data.toList) ∧ (∀ n, n ≠ s → look fs' n = look fs n) ∧ total fs' = total fs + t.size ∧ fs'.length ≤ fs.length + 1 := by
  have hts : t.data.toList.length = t.size := by rw [Array.length_toList]; rfl
  cases hl : look fs s with
  | none =>
    refine (append_new D s t hG (look_none.1 hl) hlen h).mono ?_
    rintro e w' ⟨rfl, bf, v', hE⟩
    refine ⟨rfl, _, hE, ?_, fun n hn => ?_, ?_, by simp⟩
    · rw [look_app, hl, look_cons, if_pos rfl]; rfl
    · rw [look_app, look_cons, if_neg (fun e => hn e.symm)]
      cases look fs n <;> rfl
    · simp [total, hts]
  | some l =>
    obtain ⟨l1, f, l2, rfl, hn, hb, h1⟩ := look_some hl
    refine (append_some f D s t hn h).mono ?_
    rintro e w' ⟨rfl, v', hE⟩
    refine ⟨rfl, _, hE, ?_, fun n hne => ?_, ?_, by simp⟩
    · have := look_at l1 l2 { f with v := v', b := f.b ++ t.data.toList } (by show look l1 f.name = none; rw [hn]; exact h1)
      have e : ({ f with v := v', b := f.b ++ t.data.toList } : Fil).name = s := hn
      have h2 : look (l1 ++ { f with v := v', b := f.b ++ t.data.toList } :: l2) s = some (f.b ++ t.data.toList) := by rw [← e]; exact this
      rw [h2, hb]; rfl
    · rw [look_mid _ _ _ _ (by show f.name ≠ n; rw [hn]; exact fun e => hne e.symm), look_mid _ _ f _ (by rw [hn]; exact fun e => hne e.symm)]
    · rw [total_mid, total_mid]; simp [hts]; omega
theorem d_sync (D : DiskAt w bd bm room fs) (s : ByteArray) (l : List UInt8) (hl : look fs s = some l) :
    Calls Tryz.prog 63 #[.pointer (some ⟨bd, 0, none⟩), .string s] w fun e w' => e = .returned (.int .i64 0) ∧ ∃ fs', Evolves w w' bd bm room fs fs' ∧ (∀ n, look fs' n = look fs n) ∧ total fs' = total fs ∧ fs'.length = fs.length := by
  obtain ⟨l1, f, l2, rfl, hn, hb, h1⟩ := look_some hl
  refine (sync_some f D s hn).mono ?_
  rintro e w' ⟨rfl, hE⟩
  refine ⟨rfl, _, hE, fun n => ?_, by rw [total_mid, total_mid], by simp⟩
  rw [look_app, look_app, look_cons, look_cons]
theorem d_size_some (D : DiskAt w bd bm room fs) (s : ByteArray) (l : List UInt8) (hl : look fs s = some l) :
    Calls Tryz.prog 29 #[.pointer (some ⟨bd, 0, none⟩), .string s] w fun e w' => e = .returned (.int .i64 l.length) ∧ Below w.heap.size w w' := by
  obtain ⟨l1, f, l2, rfl, hn, rfl, h1⟩ := look_some hl
  exact size_some D f (by simp) s hn
theorem d_read_some (D : DiskAt w bd bm room fs) (s : ByteArray) (l : List UInt8) (hl : look fs s = some l) (at_ n : Nat) (h : at_ + n ≤ l.length) :
    Calls Tryz.prog 28 #[.pointer (some ⟨bd, 0, none⟩), .string s, .int .i64 at_, .int .i64 n] w fun e w' => e = .returned (.tuple #[.string (str ((l.drop at_).take n)), .int .i64 0]) ∧ Below w.heap.size w w' := by
  obtain ⟨l1, f, l2, rfl, hn, rfl, h1⟩ := look_some hl
  exact read_some D f (by simp) s hn at_ n h
theorem d_rename (D : DiskAt w bd bm room fs) (s tn : ByteArray) (hto : Vd.Good tn) (hne : s ≠ tn) (l : List UInt8) (hl : look fs s = some l) :
    Calls Tryz.prog 64 #[.pointer (some ⟨bd, 0, none⟩), .string s, .string tn] w fun e w' => e = .returned (.int .i64 0) ∧ ∃ fs', Evolves w w' bd bm room fs fs' ∧
      look fs' tn = some l ∧ look fs' s = none ∧ (∀ n, n ≠ s → n ≠ tn → look fs' n = look fs n) ∧ total fs' ≤ total fs ∧ fs'.length ≤ fs.length := by
  have hN := D.names
  obtain ⟨l1, f, l2, rfl, hn, rfl, h1⟩ := look_some hl
  refine (rename_some f D s tn hn hto).mono ?_
  rintro e w' ⟨rfl, fs', hR, hE⟩
  have hno : look (l1 ++ l2) s = none := by
    rw [look_none]
    intro g hg e
    rw [List.map_append, List.map_cons, List.nodup_append] at hN
    obtain ⟨n1, n2, n3⟩ := hN
    rw [List.nodup_cons] at n2
    rcases List.mem_append.1 hg with hg | hg
    · exact n3 g.name (List.mem_map_of_mem hg) f.name (by simp) (by rw [e, hn])
    · exact n2.1 (by rw [hn, ← e]; exact List.mem_map_of_mem hg)
  refine ⟨rfl, fs', hE, ?_⟩
  have hfn : ({ f with name := tn } : Fil).name = tn := rfl
  have hfb : ({ f with name := tn } : Fil).b = f.b := rfl
  have hfl : ∀ n, n ≠ s → look (l1 ++ f :: l2) n = look (l1 ++ l2) n := fun n h => look_mid _ _ _ _ (by rw [hn]; exact fun e => h e.symm)
  rcases hR with ⟨hab, rfl⟩ | ⟨m1, g, m2, he, hg, rfl⟩
  · refine ⟨?_, ?_, fun n h2 h3 => ?_, ?_, by first | (simp; done) | (simp; omega)⟩
    · rw [look_app, look_none.2 hab, look_cons, if_pos rfl]
      try rfl
    · rw [look_app, hno, look_cons, if_neg (fun e => hne e.symm)]
      try rfl
    · rw [hfl n h2, look_app, look_cons, if_neg (fun e => h3 e.symm)]
      cases look (l1 ++ l2) n <;> rfl
    · rw [total_mid]; simp [total]; omega
  · have hm1 : look m1 tn = none := by
      rw [look_none]
      intro x hx e
      have hnd : ((l1 ++ l2).map Fil.name).Nodup := by
        rw [List.map_append, List.map_cons] at hN
        rw [List.map_append]
        exact hN.sublist (List.Sublist.append_left (List.sublist_cons_self _ _) _)
      rw [he, List.map_append, List.map_cons, List.nodup_append] at hnd
      exact hnd.2.2 x.name (List.mem_map_of_mem hx) g.name (by simp) (by rw [e, hg])
    have hlen : (m1 ++ ({ f with name := tn } : Fil) :: m2).length = (l1 ++ l2).length := by rw [he]; simp
    refine ⟨?_, ?_, fun n h2 h3 => ?_, ?_, by rw [hlen]; simp⟩
    · exact look_at m1 m2 { f with name := tn } hm1
    · rw [look_mid _ _ _ _ (by rw [hfn]; exact fun e => hne e.symm)]
      rw [he, look_mid _ _ g _ (by rw [hg]; exact fun e => hne e.symm)] at hno
      exact hno
    · rw [look_mid _ _ _ _ (by rw [hfn]; exact fun e => h3 e.symm), hfl n h2, he, look_mid _ _ g _ (by rw [hg]; exact fun e => h3 e.symm)]
    · rw [total_mid, total_mid, he, total_mid]; show _ + f.b.length ≤ _; omega
end
end Go.Proofs.YtcioejacijkbcaaGreatDoor.Lg
/- segment: one of many files of a disk: Append, Open, Sync. -/
namespace Go.Proofs.YtcioejacijkbcaaGreatDoor.Lg
open Go.RowKit Go.Maps Go.ChangeMaps Go.WideMaps Go.Proofs.YtcioejacijkbcaaGreatDoor.Vd Go.Proofs.YtcioejacijkbcaaGreatDoor.Rc Go.Proofs.YtcioejacijkbcaaGreatDoor.Sg
set_option linter.unusedVariables false
/-- a segment's cells, and its file -/
structure SegIn (w : World) (bs bd : Nat) (name : ByteArray) (base : Nat) (fs : List Fil) (xs : List Bat) (mv : Value) : Prop where
  seg : SgAt w bs bd name base (endOf base xs) (text xs).length xs.length mv (marks xs)
  chain : Chain base xs
  good : Vd.Good name
  file : look fs name = some (text xs) ∨ (look fs name = none ∧ xs = [])
theorem SegIn.had {w : World} {bs bd : Nat} {name : ByteArray} {base : Nat} {fs : List Fil} {xs : List Bat} {mv : Value} (h : SegIn w bs bd name base fs xs mv) : (look fs name).getD [] = text xs := by
  rcases h.file with g | ⟨g, rfl⟩ <;> rw [g] <;> rfl
/-- what Append of the next batch leaves -/
structure Grew (w w' : World) (bs bd bm room : Nat) (name : ByteArray) (base : Nat) (fs : List Fil) (xs : List Bat) (mv : Value) (x : Bat) (fs' : List Fil) (mv' : Value) : Prop where
  disk : DiskAt w' bd bm room fs'
  seg : SegIn w' bs bd name base fs' (xs ++ [x]) mv'
  other : ∀ n, n ≠ name → look fs' n = look fs n
  tot : total fs' = total fs + x.l.length
  few : fs'.length ≤ fs.length + 1
  touch : Vd.Touch (fun k => k = bs ∨ mv.ownBlock = some k ∨ DiskB bd bm fs k) w w'
  newD : ∀ k, DiskB bd bm fs' k → DiskB bd bm fs k ∨ w.heap.size ≤ k
  newM : ∀ k, mv'.ownBlock = some k → mv.ownBlock = some k ∨ w.heap.size ≤ k
  apart : ∀ k, mv'.ownBlock = some k → ¬ DiskB bd bm fs' k
theorem seg_in_append {w : World} {bs bd bm room : Nat} {name : ByteArray} {base : Nat} {fs : List Fil} {xs : List Bat} {mv : Value} (D : DiskAt w bd bm room fs) (h : SegIn w bs bd name base fs xs mv) (ap1 : ¬ DiskB bd bm fs bs) (ap2 : ∀ k, mv.ownBlock = some k → ¬ DiskB bd bm fs k)
    (x : Bat) (hx : x.Ok) (hb : x.b = endOf base xs) (hn : xs.length ≤ 1048576) (hlen : fs.length < 256) (hr : total fs + x.l.length ≤ room) (htx : (text xs).length ≤ 16777216) :
    Calls Tryz.prog 26 #[.pointer (some ⟨bs, 0, none⟩), .string (Bt.str x.l)] w fun e w' => e = .returned (.int .i64 0) ∧ ∃ fs' mv', Grew w w' bs bd bm room name base fs xs mv x fs' mv' := by
  have S := h.seg
  have hml := marks_length xs
  have hss := Bt.str_size x.l
  have HD : ∀ W, Below w.heap.size w W → Calls Tryz.prog 60 #[.pointer (some ⟨bd, 0, none⟩), .string name, .string (Bt.str x.l)] W fun e w' => e = .returned (.int .i64 0) ∧
      (∃ fs', Evolves W w' bd bm room fs fs' ∧ look fs' name = some (text xs ++ x.l) ∧ (∀ n, n ≠ name → look fs' n = look fs n) ∧ total fs' = total fs + x.l.length ∧ fs'.length ≤ fs.length + 1) ∧
      SgAt w' bs bd name base (endOf base xs) (text xs).length xs.length mv (marks xs) ∧ ∀ k, w.heap.size ≤ k → k < W.heap.size → w'.heap[k]? = W.heap[k]? := by
    intro W hW
    refine (d_append (D.below hW) name (Bt.str x.l) h.good hlen (by rw [hss]; exact hr)).mono ?_
    rintro e w' ⟨rfl, fs', hE, l1, l2, l3, l4⟩
    rw [h.had, Bt.str_data] at l1
    rw [hss] at l3
    refine ⟨rfl, ⟨fs', hE, l1, l2, l3, l4⟩, (h.seg.below hW).evolved hE ap1 ap2, fun k hk1 hk2 => hE.touch.block k hk2 fun hD => ?_⟩
    have := D.lt k hD
    omega
  rw [← hb] at S HD
  refine (append_next x S hx (Bt.str x.l) (Bt.str_data _) (by omega) (by omega) (by omega) 0 (fun W w' => ∃ fs', Evolves W w' bd bm room fs fs' ∧ look fs' name = some (text xs ++ x.l) ∧ (∀ n, n ≠ name → look fs' n = look fs n) ∧ total fs' = total fs + x.l.length ∧ fs'.length ≤ fs.length + 1) HD).mono ?_
  rintro e w' ⟨rfl, W, w1, hbW, ⟨fs', hE, l1, l2, l3, l4⟩, hor⟩
  rcases hor with ⟨h0, _⟩ | ⟨_, mv', hS', hT, hN⟩
  · exact absurd rfl h0
  have hbs := Vd.lt_of_heap S.cell
  have hown : ∀ k, mv.ownBlock = some k → k < w.heap.size := fun k hk => (World.ownsRow.lt S.own k hk).2
  have hWs := hbW.size
  have hnb : ∀ k, DiskB bd bm fs' k → ¬ (k = bs ∨ mv.ownBlock = some k) := by
    intro k hk hc
    rcases hE.new k hk with h1 | h1
    · rcases hc with rfl | hc
      · exact ap1 h1
      · exact ap2 k hc h1
    · rcases hc with rfl | hc
      · omega
      · have := hown k hc; omega
  refine ⟨rfl, fs', mv', ⟨hE.disk.kept fun k hk => hT.block k (hE.disk.lt k hk) (hnb k hk), ⟨?_, h.chain.snoc hx hb, h.good, .inl (by rw [l1, text_snoc])⟩, l2, l3, l4, ?_, ?_, ?_, ?_⟩⟩
  · rw [endOf_snoc, text_snoc, marks_snoc, List.length_append, List.length_append, ← hb]
    exact hS'
  · have t1 : Vd.Touch (fun k => k = bs ∨ mv.ownBlock = some k ∨ DiskB bd bm fs k) w W := Vd.Touch.ofBelow hbW
    have t2 := t1.trans hE.touch (fun x hx => .inl (.inr (.inr hx)))
    exact t2.trans hT (fun x hx => .inl (hx.imp id .inl))
  · intro k hk
    rcases hE.new k hk with h1 | h1
    · exact .inl h1
    · exact .inr (by omega)
  · intro k hk
    rcases hN k hk with h1 | h1
    · exact .inl h1
    · have := hE.touch.size; exact .inr (by omega)
  · intro k hk hD
    rcases hN k hk with h1 | h1
    · exact hnb k hD (.inr h1)
    · have := hE.disk.lt k hD; omega
end Go.Proofs.YtcioejacijkbcaaGreatDoor.Lg
/- seglog: a segment's name, a manifest's line, for small numbers. -/
namespace Go.Proofs.YtcioejacijkbcaaGreatDoor.Lg
open Go.RowKit Go.Maps Go.ChangeMaps Go.WideMaps Go.Proofs.YtcioejacijkbcaaGreatDoor.Vd
set_option linter.unusedVariables false
end Go.Proofs.YtcioejacijkbcaaGreatDoor.Lg
/- seglog: given; a log that nobody opened. -/
namespace Go.Proofs.YtcioejacijkbcaaGreatDoor.Lg
open Go.RowKit Go.Maps Go.ChangeMaps Go.WideMaps Go.Proofs.YtcioejacijkbcaaGreatDoor.Vd
set_option linter.unusedVariables false
def Nobody (w : World) (p : Option Addr) : Prop := ∀ a, p = some a → ∃ b, a = ⟨b, 0, none⟩ ∧ w.cell? ⟨b, 2, none⟩ = some (.slice none 0 0)
theorem given_nil (w : World) : Calls Tryz.prog 20 #[.pointer none] w fun e w' => e = .returned (.bool false) ∧ w = w' := by
  go_enter Tryz.func20, Tryz.ntmps20
  go_wp2
  go_ret
  exact ⟨rfl, rfl⟩
theorem given_any (w : World) (b : Nat) (ap : Option Addr) (n cap : Nat) (h : w.cell? ⟨b, 2, none⟩ = some (.slice ap n cap)) (r : Bool) (hr : decide (0 < n) = r) : Calls Tryz.prog 20 #[.pointer (some ⟨b, 0, none⟩)] w fun e w' => e = .returned (.bool r) ∧ w = w' := by
  subst hr
  go_enter Tryz.func20, Tryz.ntmps20
  go_wp2
  go_ret
  exact ⟨rfl, rfl⟩
theorem given_nobody (w : World) (p : Option Addr) (hp : Nobody w p) : Calls Tryz.prog 20 #[.pointer p] w fun e w' => e = .returned (.bool false) ∧ w = w' := by
  rcases p with _ | a
  · exact given_nil w
  · obtain ⟨b, rfl, hc⟩ := hp a rfl
    exact given_any w b none 0 0 hc false (by simp)
theorem append_nobody (w : World) (p : Option Addr) (s : ByteArray) (hp : Nobody w p) :
    Calls Tryz.prog 9 #[.pointer p, .string s] w fun e w' => e = .returned (.int .i64 1) ∧ w = w' := by
  have HP := Lib.hid hp
  clear hp
  go_enter Tryz.func9, Tryz.ntmps9
  go_wp2_with fail
  refine (given_nobody _ p HP.out).mono ?_
  rintro e w1 ⟨rfl, rfl⟩
  go_wp2
  go_ret
  exact ⟨rfl, rfl⟩
theorem sync_nobody (w : World) (p : Option Addr)  (hp : Nobody w p) :
    Calls Tryz.prog 15 #[.pointer p] w fun e w' => e = .returned (.int .i64 1) ∧ w = w' := by
  have HP := Lib.hid hp
  clear hp
  go_enter Tryz.func15, Tryz.ntmps15
  go_wp2_with fail
  refine (given_nobody _ p HP.out).mono ?_
  rintro e w1 ⟨rfl, rfl⟩
  go_wp2
  go_ret
  exact ⟨rfl, rfl⟩
theorem cut_nobody (w : World) (p : Option Addr) (n : Int) (hp : Nobody w p) :
    Calls Tryz.prog 16 #[.pointer p, .int .i64 n] w fun e w' => e = .returned (.int .i64 1) ∧ w = w' := by
  have HP := Lib.hid hp
  clear hp
  go_enter Tryz.func16, Tryz.ntmps16
  go_wp2_with fail
  refine (given_nobody _ p HP.out).mono ?_
  rintro e w1 ⟨rfl, rfl⟩
  go_wp2
  go_ret
  exact ⟨rfl, rfl⟩
theorem end_nobody (w : World) (p : Option Addr)  (hp : Nobody w p) :
    Calls Tryz.prog 8 #[.pointer p] w fun e w' => e = .returned (.int .i64 0) ∧ w = w' := by
  have HP := Lib.hid hp
  clear hp
  go_enter Tryz.func8, Tryz.ntmps8
  go_wp2_with fail
  refine (given_nobody _ p HP.out).mono ?_
  rintro e w1 ⟨rfl, rfl⟩
  go_wp2
  go_ret
  exact ⟨rfl, rfl⟩
theorem batch_nobody (w : World) (p : Option Addr) (n : Int) (hp : Nobody w p) :
    Calls Tryz.prog 12 #[.pointer p, .int .i64 n] w fun e w' => e = .returned (.tuple #[.string { data := #[] }, .int .i64 1]) ∧ w = w' := by
  have HP := Lib.hid hp
  clear hp
  go_enter Tryz.func12, Tryz.ntmps12
  go_wp2_with fail
  refine (given_nobody _ p HP.out).mono ?_
  rintro e w1 ⟨rfl, rfl⟩
  go_wp2
  go_ret2
  exact ⟨rfl, rfl⟩
theorem batches_nobody (w : World) (p : Option Addr) (n : Int) (hp : Nobody w p) :
    Calls Tryz.prog 13 #[.pointer p, .int .i64 n] w fun e w' => e = .returned (.tuple #[.slice none 0 0, .int .i64 1]) ∧ w = w' := by
  have HP := Lib.hid hp
  clear hp
  go_enter Tryz.func13, Tryz.ntmps13
  go_wp2_with fail
  refine (given_nobody _ p HP.out).mono ?_
  rintro e w1 ⟨rfl, rfl⟩
  go_wp2
  go_ret2
  exact ⟨rfl, rfl⟩
theorem read_nobody (w : World) (p : Option Addr) (n m k : Int) (hp : Nobody w p) :
    Calls Tryz.prog 14 #[.pointer p, .int .i64 n, .int .i64 m, .int .i64 k] w fun e w' => e = .returned (.tuple #[.slice none 0 0, .int .i64 1]) ∧ w = w' := by
  have HP := Lib.hid hp
  clear hp
  go_enter Tryz.func14, Tryz.ntmps14
  go_wp2_with fail
  refine (given_nobody _ p HP.out).mono ?_
  rintro e w1 ⟨rfl, rfl⟩
  go_wp2
  go_ret2
  exact ⟨rfl, rfl⟩
theorem segments_nobody (w : World) (p : Option Addr)  (hp : Nobody w p) :
    Calls Tryz.prog 10 #[.pointer p] w fun e w' => e = .returned (.slice none 0 0) ∧ w = w' := by
  have HP := Lib.hid hp
  clear hp
  go_enter Tryz.func10, Tryz.ntmps10
  go_wp2_with fail
  refine (given_nobody _ p HP.out).mono ?_
  rintro e w1 ⟨rfl, rfl⟩
  go_wp2
  go_ret
  exact ⟨rfl, rfl⟩
theorem swap_nobody (w : World) (p : Option Addr) (n : Int) (v : Value) (hp : Nobody w p) :
    Calls Tryz.prog 17 #[.pointer p, .int .i64 n, v] w fun e w' => e = .returned (.int .i64 1) ∧ Below w.heap.size w w' := by
  have hb := (Below.refl w.heap.size w).alloc (Nat.le_refl _) (.cells #[.int .i64 n] 3)
  have hp' : Nobody (w.alloc (.cells #[.int .i64 n] 3)) p := by
    intro a ha
    obtain ⟨b, h1, h2⟩ := hp a ha
    refine ⟨b, h1, (hb.cell (p := ⟨b, 2, none⟩) ?_).trans h2⟩
    unfold World.cell? at h2
    rcases Nat.lt_or_ge b w.heap.size with h | h
    · exact h
    · rw [Array.getElem?_eq_none h] at h2; cases h2
  have HP := Lib.hid hp'
  have HB := Lib.hid hb
  clear hp hp' hb
  go_enter Tryz.func17, Tryz.ntmps17
  go_wp2_with fail
  refine (given_nobody _ p HP.out).mono ?_
  rintro e w1 ⟨rfl, rfl⟩
  go_wp2
  go_ret
  exact ⟨rfl, HB.out⟩
end Go.Proofs.YtcioejacijkbcaaGreatDoor.Lg
/- seglog: a number below 1296 by 36 digits. -/
namespace Go.Proofs.YtcioejacijkbcaaGreatDoor.Lg
open Go.RowKit Go.Maps Go.ChangeMaps Go.WideMaps Go.Proofs.YtcioejacijkbcaaGreatDoor.Vd
set_option linter.unusedVariables false
theorem genw' {P : Program} {c : Code} {Q : Exit → Act → World → Prop} {a : Act} {w : World} (h : ∀ W, W = w → Code.wp P c Q a W) : Code.wp P c Q a w := h w rfl
theorem pow2_no (w : World) : Calls Tryz.prog 204 #[.int .i64 36] w fun e w' => e = .returned (.bool false) ∧ w = w' := by
  go_enter Tryz.func204, Tryz.ntmps204
  go_wp2
  go_ret
  exact ⟨rfl, rfl⟩
/-- a text of one byte, in an array -/
theorem one_at (W : World) (b o : Nat) (x : Nat) (hx : x < 256) (h : W.cell? ⟨b, o, none⟩ = some (.int .u8 (x : Int))) :
    (convert 60 9 (.slice (some ⟨b, o, none⟩) 1 1)).run Tryz.prog W = .ok (.string { data := #[UInt8.ofNat x] }) W := by
  rw [run_convert_bytes_arg (P := Tryz.prog) _ _ _ Tryz.underlying60 Tryz.underlying5 b o 1 1 [x] (by simp) ?_ _ Tryz.underlying9]
  · congr 2
  · intro j hj
    obtain rfl : j = 0 := by simpa using hj
    simpa using h
def dg (n : Nat) : Nat := if n < 10 then 48 + n else 87 + n
def b36 (u : Nat) : List UInt8 := if u < 36 then [UInt8.ofNat (dg u)] else [UInt8.ofNat (dg (u / 36)), UInt8.ofNat (dg (u % 36))]
def digs : ByteArray := { data := #[48, 49, 50, 51, 52, 53, 54, 55, 56, 57, 97, 98, 99, 100, 101, 102, 103, 104, 105, 106, 107, 108, 109, 110, 111, 112, 113, 114, 115, 116, 117, 118, 119, 120, 121, 122] }
theorem dg_at (n : Nat) (h : n < 36) : digs.data[n]? = some (UInt8.ofNat (dg n)) ∧ (UInt8.ofNat (dg n)).toNat = dg n ∧ dg n < 256 := by
  have : ∀ n : Fin 36, digs.data[n.1]? = some (UInt8.ofNat (dg n.1)) ∧ (UInt8.ofNat (dg n.1)).toNat = dg n.1 ∧ dg n.1 < 256 := by decide
  exact this ⟨n, h⟩
theorem dg_get (m n : Nat) (e : m = n) (h : n < 36) (h' : m < digs.size) : (digs[m]'h').toNat = dg n := by
  subst e
  obtain ⟨h1, h2, h3⟩ := dg_at m h
  have h4 : digs.data[m]? = some (digs[m]'h') := by
    rw [Array.getElem?_eq_getElem (show m < digs.data.size from h')]
    rfl
  rw [h1] at h4
  injection h4 with h4
  rw [← h4, h2]
theorem ix36 (W : World) (n : Nat) (h : n < 36) : (Instr.index 9 (.string digs) (.int .u64 n)).run Tryz.prog W = .ok (.int .u8 (dg n)) W := by
  have hs : n = 0 ∨ n = 1 ∨ n = 2 ∨ n = 3 ∨ n = 4 ∨ n = 5 ∨ n = 6 ∨ n = 7 ∨ n = 8 ∨ n = 9 ∨ n = 10 ∨ n = 11 ∨ n = 12 ∨ n = 13 ∨ n = 14 ∨ n = 15 ∨ n = 16 ∨ n = 17 ∨ n = 18 ∨ n = 19 ∨ n = 20 ∨ n = 21 ∨ n = 22 ∨ n = 23 ∨ n = 24 ∨ n = 25 ∨ n = 26 ∨ n = 27 ∨ n = 28 ∨ n = 29 ∨ n = 30 ∨ n = 31 ∨ n = 32 ∨ n = 33 ∨ n = 34 ∨ n = 35 := by omega
  rcases hs with rfl | rfl | rfl | rfl | rfl | rfl | rfl | rfl | rfl | rfl | rfl | rfl | rfl | rfl | rfl | rfl | rfl | rfl | rfl | rfl | rfl | rfl | rfl | rfl | rfl | rfl | rfl | rfl | rfl | rfl | rfl | rfl | rfl | rfl | rfl | rfl
  all_goals (clear h; show _ = _; kernel_rfl)
theorem two_at (W : World) (b o : Nat) (x y : Nat) (hx : x < 256) (hy : y < 256) (h : W.cell? ⟨b, o, none⟩ = some (.int .u8 (x : Int))) (h' : W.cell? ⟨b, o + 1, none⟩ = some (.int .u8 (y : Int))) :
    (convert 60 9 (.slice (some ⟨b, o, none⟩) 2 2)).run Tryz.prog W = .ok (.string { data := #[UInt8.ofNat x, UInt8.ofNat y] }) W := by
  rw [run_convert_bytes_arg (P := Tryz.prog) _ _ _ Tryz.underlying60 Tryz.underlying5 b o 2 2 [x, y] (by simp) ?_ _ Tryz.underlying9]
  · congr 2
  · intro j hj
    rcases (show j = 0 ∨ j = 1 from by have h2 : j < 2 := hj; omega) with rfl | rfl
    · simpa using h
    · simpa using h'
set_option maxRecDepth 100000 in
set_option maxHeartbeats 2000000 in
theorem bits36 (w : World) (u : Nat) (hu : u < 1296) :
    Calls Tryz.prog 155 #[.slice none 0 0, .int .u64 u, .int .i64 36, .bool false, .bool false] w fun e w' => e = .returned (.tuple #[.slice none 0 0, .string ⟨(b36 u).toArray⟩]) ∧ Below w.heap.size w w' := by
  have hu0 : (0 : Int) ≤ (u : Int) := by omega
  have huw : IntKind.u64.wrap (u : Int) = (u : Int) := IntWalk.u64_in _ (by omega)
  go_enter Tryz.func155, Tryz.ntmps155
  go_wp2_with fail
  refine (pow2_no _).mono ?_
  rintro e w1 ⟨rfl, rfl⟩
  go_wp2_with fail
  refine genw' ?_
  intro W hW
  have hcell : ∃ cs : Array Value, cs.size = 65 ∧ W.heap[w.heap.size]? = some (.cells cs 246 (0, 0)) := by
    rw [hW]
    exact ⟨_, rfl, heap_alloc_new w _⟩
  have hBW : Below w.heap.size w W := by rw [hW]; exact (Below.refl _ _).alloc (Nat.le_refl _) _
  clear hW
  have HBW := Lib.hid hBW
  have HC := Lib.hid hcell
  clear hBW hcell
  go_loopw [1, 13] (fun v i V => (v = .int .u64 u ∧ i = .int .i64 65 ∧ V = W) ∨ (36 ≤ u ∧ v = .int .u64 ((u / 36 : Nat) : Int) ∧ i = .int .i64 64 ∧ V = W.setCell ⟨w.heap.size, 64, none⟩ (.int .u8 (dg (u % 36))))) (fun v _ _ => (intOf v).toNat)
  case atStart => exact .inl ⟨rfl, rfl, rfl⟩
  case round =>
    obtain ⟨cs, hcs, hb⟩ := HC.out
    rcases hrel with ⟨rfl, rfl, rfl⟩ | ⟨h36, rfl, rfl, rfl⟩
    · by_cases h36 : u < 36
      · have h36' : ¬ (36 : Int) ≤ (u : Int) := by omega
        have hfz := fun j => Lib.frozen_of_heap hb j
        have hix := fun W => ix36 W u h36
        unfold digs at hix
        have hcl : wr.cell? ⟨w.heap.size, 64, none⟩ = cs[64]? := by rw [cell_of hb]
        rw [Array.getElem?_eq_getElem (by omega)] at hcl
        go_wp2_with fail
        rw [one_at _ w.heap.size 64 (dg u) (dg_at u h36).2.2 (by rw [cell_of (Vd.setCell_block hb 64 _), Array.getElem?_setIfInBounds_self_of_lt (by omega)])]
        go_wp2
        go_ret2
        exact ⟨by simp [b36, h36], HBW.out.setCell (p := ⟨w.heap.size, 64, none⟩) (Nat.le_refl _) _⟩
      · have h36' : (36 : Int) ≤ (u : Int) := by omega
        have hfz := fun j => Lib.frozen_of_heap hb j
        have hix := fun W => ix36 W (u % 36) (Nat.mod_lt _ (by decide))
        unfold digs at hix
        have hcl : wr.cell? ⟨w.heap.size, 64, none⟩ = cs[64]? := by rw [cell_of hb]
        rw [Array.getElem?_eq_getElem (by omega)] at hcl
        go_wp2_with fail
        go_roundw
        case rel =>
          refine .inr ⟨by omega, by push_cast; rfl, rfl, ?_⟩
          rw [← dg_get (u - u / 36 * 36) (u % 36) (by omega) (Nat.mod_lt _ (by decide)) (by show _ < 36; omega)]
          rfl
        case measure => simp [intOf]; omega
    · have hq36 : u / 36 < 36 := by omega
      have hb' := Vd.setCell_block hb 64 (.int .u8 (dg (u % 36)))
      have hfz := fun j => Lib.frozen_of_heap hb' j
      have hcl : (W.setCell ⟨w.heap.size, 64, none⟩ (.int .u8 (dg (u % 36)))).cell? ⟨w.heap.size, 63, none⟩ = cs[63]? := by rw [cell_of hb', Array.getElem?_setIfInBounds_ne (by decide)]
      rw [Array.getElem?_eq_getElem (by omega)] at hcl
      have HB' := Lib.hid hb'
      have HB2 := Lib.hid (HBW.out.setCell (p := ⟨w.heap.size, 64, none⟩) (Nat.le_refl _) (.int .u8 (dg (u % 36))))
      clear hb'
      generalize W.setCell ⟨w.heap.size, 64, none⟩ (.int .u8 (dg (u % 36))) = W2 at *
      generalize hq : u / 36 = q at *
      have hix := fun W => ix36 W q hq36
      have h37 : ¬ (36 : Int) ≤ (q : Int) := by omega
      have hq0 : (0 : Int) ≤ (q : Int) := by omega
      unfold digs at hix
      go_wp2_with fail
      rw [two_at _ w.heap.size 63 (dg q) (dg (u % 36)) (dg_at q hq36).2.2 (dg_at _ (Nat.mod_lt _ (by decide))).2.2 (by rw [cell_of (Vd.setCell_block HB'.out 63 _), Array.getElem?_setIfInBounds_self_of_lt (by simp; omega)]) (by rw [cell_of (Vd.setCell_block HB'.out 63 _), Array.getElem?_setIfInBounds_ne (by decide), Array.getElem?_setIfInBounds_self_of_lt (by omega)])]
      go_wp2
      go_ret2
      exact ⟨by simp [b36, show ¬ u < 36 from by omega, hq], HB2.out.setCell (p := ⟨w.heap.size, 63, none⟩) (Nat.le_refl _) _⟩
theorem fmt36 (w : World) (u : Nat) (hu : u < 1296) :
    Calls Tryz.prog 114 #[.int .i64 u, .int .i64 36] w fun e w' => e = .returned (.string ⟨(b36 u).toArray⟩) ∧ Below w.heap.size w w' := by
  have HB := Lib.hid (fun w => bits36 w u hu)
  have h0 : ¬ (u : Int) < 0 := by omega
  have hw : IntKind.u64.wrap (u : Int) = (u : Int) := IntWalk.u64_in _ (by omega)
  clear hu
  go_enter Tryz.func114, Tryz.ntmps114
  go_wp2_with fail
  refine (HB.out _).mono ?_
  rintro e w1 ⟨rfl, hb⟩
  go_wp2
  go_ret
  exact ⟨rfl, hb⟩
theorem fmt36' (w : World) (u : Nat) (hu : u < 1296) :
    Calls Tryz.prog 72 #[.int .i64 u, .int .i64 36] w fun e w' => e = .returned (.string ⟨(b36 u).toArray⟩) ∧ Below w.heap.size w w' := by
  have HB := Lib.hid (fun w => fmt36 w u hu)
  clear hu
  go_enter Tryz.func72, Tryz.ntmps72
  go_wp2_with fail
  refine (HB.out _).mono ?_
  rintro e w1 ⟨rfl, hb⟩
  go_wp2
  go_ret
  exact ⟨rfl, hb⟩
/-- a segment's file -/
def nm (u : Nat) : ByteArray := { data := #[115, 101, 103] } ++ ⟨(b36 u).toArray⟩ ++ { data := #[46] } ++ { data := #[48] }
theorem b36_len (u : Nat) : 1 ≤ (b36 u).length ∧ (b36 u).length ≤ 2 := by
  unfold b36; split <;> simp
theorem named (w : World) (u : Nat) (hu : u < 1296) :
    Calls Tryz.prog 37 #[.int .i64 u, .int .i64 0] w fun e w' => e = .returned (.string (nm u)) ∧ Below w.heap.size w w' := by
  have HB := Lib.hid (fun w => fmt36' w u hu)
  have H0 := Lib.hid (fun w => fmt36' w 0 (by decide))
  have h00 : (⟨(b36 0).toArray⟩ : ByteArray) = { data := #[48] } := rfl
  rw [h00] at H0
  clear hu h00
  obtain ⟨D, hD⟩ : ∃ D : ByteArray, D = ⟨(b36 u).toArray⟩ := ⟨_, rfl⟩
  rw [← hD] at HB
  have hsz : D.size = 1 ∨ D.size = 2 := by
    have h := b36_len u
    have : D.size = (b36 u).length := by rw [hD]; show (b36 u).toArray.size = _; simp
    omega
  have HD := Lib.hid hD
  clear hD
  rcases hsz with hsz | hsz
  all_goals
    go_enter Tryz.func37, Tryz.ntmps37
    go_wp2_with fail
    refine (HB.out _).mono ?_
    rintro e w1 ⟨rfl, hb1⟩
    have HB1 := Lib.hid hb1
    clear hb1
    go_wp2_with fail
    refine (H0.out _).mono ?_
    rintro e w2 ⟨rfl, hb2⟩
    have HB2 := Lib.hid (HB1.out.trans (hb2.mono HB1.out.size))
    clear hb2
    go_wp2
    go_ret
    refine ⟨?_, HB2.out⟩
    rw [HD.out]
    rfl
theorem nm_list (u : Nat) : nm u = str ([115, 101, 103] ++ b36 u ++ [46, 48]) := by
  apply ByteArray.ext
  simp [nm, str, ByteArray.data_append]
theorem dg_range (n : Nat) (h : n < 36) : 33 ≤ (UInt8.ofNat (dg n)).toNat ∧ (UInt8.ofNat (dg n)).toNat ≤ 126 := by
  have := dg_at n h
  rw [this.2.1]
  unfold dg
  split <;> omega
theorem good_nm (u : Nat) (hu : u < 1296) : Vd.Good (nm u) := by
  rw [nm_list]
  have hl := b36_len u
  refine good_str _ (by simp) (by simp; omega) ?_
  intro x hx
  simp only [List.mem_append, List.mem_cons, List.not_mem_nil, or_false] at hx
  have hb : x ∈ b36 u → 33 ≤ x.toNat ∧ x.toNat ≤ 126 := by
    unfold b36
    split
    · intro h; simp at h; subst h; exact dg_range u (by omega)
    · intro h
      simp at h
      rcases h with rfl | rfl
      · exact dg_range _ (by omega)
      · exact dg_range _ (Nat.mod_lt _ (by decide))
  rcases hx with (((rfl | rfl | rfl) | hx) | (rfl | rfl))
  · decide
  · decide
  · decide
  · exact hb hx
  · decide
  · decide
def undg (c : UInt8) : Nat := if c.toNat < 97 then c.toNat - 48 else c.toNat - 87
theorem undg_dg (n : Nat) (h : n < 36) : undg (UInt8.ofNat (dg n)) = n := by
  unfold undg
  rw [(dg_at n h).2.1]
  unfold dg
  split <;> split <;> omega
def un36 : List UInt8 → Nat
  | [a] => undg a
  | [a, b] => undg a * 36 + undg b
  | _ => 0
theorem un_b36 (u : Nat) (h : u < 1296) : un36 (b36 u) = u := by
  unfold b36
  split
  · simp only [un36]; exact undg_dg u (by omega)
  · simp only [un36]; rw [undg_dg _ (by omega), undg_dg _ (Nat.mod_lt _ (by decide))]; omega
theorem nm_inj {a b : Nat} (ha : a < 1296) (hb : b < 1296) (h : a ≠ b) : nm a ≠ nm b := by
  intro e
  rw [nm_list, nm_list] at e
  have e2 : ([115, 101, 103] ++ b36 a ++ [46, 48] : List UInt8) = [115, 101, 103] ++ b36 b ++ [46, 48] := by
    have := congrArg (fun x : ByteArray => x.data.toList) e
    simpa [str] using this
  have e3 := List.append_cancel_right e2
  have e4 := List.append_cancel_left e3
  exact h (by rw [← un_b36 a ha, ← un_b36 b hb, e4])
/-- the table of powers of ten -/
def Tab (w : World) : Prop := Lib.TabIs Tryz.prog w "internal/strconv.uint64pow10" .u64 Lib.pow10Tab
theorem tab_num : Tryz.prog.globalNamed "internal/strconv.uint64pow10" = some 3 := by kernel_rfl
theorem Tab.block {w w' : World} (h : Tab w) (he : w'.heap[3]? = w.heap[3]?) : Tab w' := by
  unfold Tab Lib.TabIs World.var? at h ⊢
  rw [tab_num] at h ⊢
  simp only [Option.bind_some] at h ⊢
  rw [he]
  exact h
theorem Tab.lt {w : World} (h : Tab w) : 3 < w.heap.size := by
  unfold Tab Lib.TabIs World.var? at h
  rw [tab_num] at h
  simp only [Option.bind_some] at h
  rcases Nat.lt_or_ge 3 w.heap.size with h1 | h1
  · exact h1
  · rw [Array.getElem?_eq_none h1] at h; cases h
theorem Tab.below {w w' : World} (h : Tab w) (hb : Below w.heap.size w w') : Tab w' := h.block (hb.block _ h.lt)
theorem dec_len (u : Nat) (h : u < 1000) : 1 ≤ (Lib.decDigits u).length ∧ (Lib.decDigits u).length ≤ 3 := by
  rw [Lib.decDigits]
  split
  · simp
  · rw [Lib.decDigits]
    split
    · simp
    · rw [Lib.decDigits]
      rw [dif_pos (by omega)]
      simp
/-- a manifest's line -/
def ln (u : Nat) : ByteArray := ⟨(Lib.decDigits u).toArray⟩ ++ { data := #[32] } ++ { data := #[48] } ++ { data := #[10] }
theorem ln_size (u : Nat) (h : u < 1000) : 4 ≤ (ln u).size ∧ (ln u).size ≤ 6 := by
  have h1 := dec_len u h
  have h2 : (ln u).size = (Lib.decDigits u).length + 3 := by
    unfold ln
    rw [ByteArray.size_append, ByteArray.size_append, ByteArray.size_append]
    show (Lib.decDigits u).toArray.size + 1 + 1 + 1 = _
    simp
  omega
theorem ln0 : ln 0 = { data := #[48, 32, 48, 10] } := by
  unfold ln
  rw [Lib.decDigits]
  rfl
theorem itoa_any (w : World) (u : Nat) (hu : u < 1000) (hT : Tab w ∨ u = 0) : Calls Tryz.prog 65 #[.int .i64 u] w fun e w' => e = .returned (.string ⟨(Lib.decDigits u).toArray⟩) ∧ Below w.heap.size w w' := by
  rcases hT with hT | rfl
  · refine (Tryz.strconv_Itoa u (by omega) (by omega) w hT).mono ?_
    rintro e w' ⟨rfl, k, os, rfl⟩
    refine ⟨?_, Lib.below_grow _ _ (Nat.le_refl _) _ _⟩
    unfold Lib.itoa
    rw [if_neg (by omega)]
    rfl
  · refine (Tryz.strconv_Itoa_small 0 (by decide) w).mono ?_
    rintro e w' ⟨rfl, rfl⟩
    exact ⟨rfl, Below.refl _ _⟩
theorem listed (w : World) (u : Nat) (hu : u < 1000) (hT : Tab w ∨ u = 0) :
    Calls Tryz.prog 31 #[.int .i64 u, .int .i64 0] w fun e w' => e = .returned (.string (ln u)) ∧ Below w.heap.size w w' := by
  have HI := Lib.hid (itoa_any w u hu hT)
  have HI0 := Lib.hid (fun w => itoa_any w 0 (by decide) (.inr rfl))
  have e0 : (⟨(Lib.decDigits 0).toArray⟩ : ByteArray) = { data := #[48] } := by rw [Lib.decDigits]; rfl
  rw [e0] at HI0
  have hsz : (⟨(Lib.decDigits u).toArray⟩ : ByteArray).size = (Lib.decDigits u).length := by show (Lib.decDigits u).toArray.size = _; simp
  have hl := dec_len u hu
  clear hu hT e0
  obtain ⟨D, hD⟩ : ∃ D : ByteArray, D = ⟨(Lib.decDigits u).toArray⟩ := ⟨_, rfl⟩
  rw [← hD] at HI hsz
  have hs3 : D.size = 1 ∨ D.size = 2 ∨ D.size = 3 := by omega
  have HD := Lib.hid hD
  clear hD hl hsz
  rcases hs3 with hsz | hsz | hsz
  all_goals
    go_enter Tryz.func31, Tryz.ntmps31
    go_wp2_with fail
    refine HI.out.mono ?_
    rintro e w1 ⟨rfl, hb1⟩
    have HB1 := Lib.hid hb1
    clear hb1
    go_wp2_with fail
    refine (HI0.out _).mono ?_
    rintro e w2 ⟨rfl, hb2⟩
    have HB2 := Lib.hid (HB1.out.trans (hb2.mono HB1.out.size))
    clear hb2
    go_wp2
    go_ret
    exact ⟨by rw [HD.out]; rfl, HB2.out⟩
end Go.Proofs.YtcioejacijkbcaaGreatDoor.Lg
