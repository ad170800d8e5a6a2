/- segment: Append of what is no batch, or more than one. -/
import Derived.Test.YtcioejacijkbcaaGreatDoorSgH
namespace Go.Proofs.YtcioejacijkbcaaGreatDoor.Sg
open Go.RowKit Go.Maps Go.ChangeMaps Go.WideMaps Go.Proofs.YtcioejacijkbcaaGreatDoor.Vd Go.Proofs.YtcioejacijkbcaaGreatDoor.Rc Go.Proofs.YtcioejacijkbcaaGreatDoor.Ba
set_option linter.unusedVariables false
set_option linter.unusedSimpArgs false
set_option maxRecDepth 100000 in
/-- bytes that batch.Of refuses -/
theorem append_bad {w : World} {bs bd : Nat} {name : ByteArray} {base en size n : Nat} {mv : Value} {ms : List (Nat × Nat)} (S : SgAt w bs bd name base en size n mv ms) (s : ByteArray) (er : Int) (he : er ≠ 0)
    (ho : Calls Tryz.prog 23 #[.string s] w fun e w' => e = .returned (.tuple #[zb, .int .i64 0, .int .i64 er]) ∧ Below w.heap.size w w') :
    Calls Tryz.prog 26 #[.pointer (some ⟨bs, 0, none⟩), .string s] w fun e w' => e = .returned (.int .i64 100) ∧ Below w.heap.size w w' := by
  have HO := Lib.hid ho
  have d1 : (er == 0) = false := beq_eq_false_iff_ne.2 he
  have d2 : (er != 0) = true := by simp [he]
  clear ho he
  obtain ⟨c0, c1, c2, c3, c4, c5, c6⟩ := cells7 S.cell
  clear S
  go_enter Tryz.func26, Tryz.ntmps26
  go_wp2_with fail
  refine (given_yes _ bs _ c0).mono ?_
  rintro e w1 ⟨rfl, rfl⟩
  go_wp2_with fail
  refine HO.out.mono ?_
  rintro e w1 ⟨rfl, hb⟩
  unfold zb
  have HB := Lib.hid hb
  clear c0 c1 c2 c3 c4 c5 c6 hb
  go_wp2
  go_ret
  exact ⟨rfl, HB.out.trans ((Below.refl _ _).alloc (Nat.le_refl _) _ |>.mono HB.out.size)⟩
set_option maxRecDepth 100000 in
/-- a batch, and more behind it -/
theorem append_more {w : World} {bs bd : Nat} {name : ByteArray} {base en size n : Nat} {mv : Value} {ms : List (Nat × Nat)} (x : Bat) (S : SgAt w bs bd name base en size n mv ms) (h : x.Ok) (t : List UInt8) (s : ByteArray) (hs : s.data.toList = x.l ++ t) (ht : t ≠ []) (hsz : s.size ≤ 1099511627776) :
    Calls Tryz.prog 26 #[.pointer (some ⟨bs, 0, none⟩), .string s] w fun e w' => e = .returned (.int .i64 100) ∧ Below w.heap.size w w' := by
  have hlen : x.l.length < s.size := by
    rw [Bt.size_data, hs, List.length_append]
    have := List.length_pos_iff.2 ht
    omega
  have HO := Lib.hid (of_bat x h t s hs hsz w)
  have hq : ¬ x.l.length = s.size := by omega
  have hq2 : (x.l.length == s.size) = false := by simpa using hq
  have hq3 : ((x.l.length : Int) != (s.size : Int)) = true := bne_iff_ne.2 (by omega)
  clear h hs ht hsz hlen
  obtain ⟨c0, c1, c2, c3, c4, c5, c6⟩ := cells7 S.cell
  clear S
  go_enter Tryz.func26, Tryz.ntmps26
  go_wp2_with fail
  refine (given_yes _ bs _ c0).mono ?_
  rintro e w1 ⟨rfl, rfl⟩
  go_wp2_with fail
  refine HO.out.mono ?_
  rintro e w1 ⟨⟨ap, cap, rfl, _⟩, hb⟩
  have HB := Lib.hid hb
  clear c0 c1 c2 c3 c4 c5 c6 hb
  go_wp2
  go_ret
  exact ⟨rfl, HB.out.trans ((Below.refl _ _).alloc (Nat.le_refl _) _ |>.mono HB.out.size)⟩
end Go.Proofs.YtcioejacijkbcaaGreatDoor.Sg
/- segment: a segment and its disk, together; Append into it. -/
namespace Go.Proofs.YtcioejacijkbcaaGreatDoor.Sg
open Go.RowKit Go.Maps Go.ChangeMaps Go.WideMaps Go.Proofs.YtcioejacijkbcaaGreatDoor.Vd Go.Proofs.YtcioejacijkbcaaGreatDoor.Rc Go.Proofs.YtcioejacijkbcaaGreatDoor.Ba
set_option linter.unusedVariables false
/-- a segment over a disk that has its file alone (or no file yet) -/
structure SegAt (w : World) (bs bd bm room : Nat) (name : ByteArray) (base : Nat) (fs : List Fil) (xs : List Bat) (mv : Value) : Prop where
  disk : DiskAt w bd bm room fs
  seg : SgAt w bs bd name base (endOf base xs) (text xs).length xs.length mv (marks xs)
  chain : Chain base xs
  good : Vd.Good name
  file : (fs = [] ∧ xs = []) ∨ ∃ f, fs = [f] ∧ f.name = name ∧ f.b = text xs
  apart : ¬ DiskB bd bm fs bs ∧ ∀ k, mv.ownBlock = some k → ¬ DiskB bd bm fs k
theorem SegAt.below {w w' : World} {bs bd bm room : Nat} {name : ByteArray} {base : Nat} {fs : List Fil} {xs : List Bat} {mv : Value} (h : SegAt w bs bd bm room name base fs xs mv) (hb : Below w.heap.size w w') : SegAt w' bs bd bm room name base fs xs mv :=
  ⟨h.disk.below hb, h.seg.below hb, h.chain, h.good, h.file, h.apart⟩
/-- the disk's doing keeps the segment's cells, and blocks that are newer -/
theorem SgAt.evolved {w w' : World} {bs bd bm room : Nat} {name : ByteArray} {base en size n : Nat} {mv : Value} {ms : List (Nat × Nat)} {fs fs' : List Fil} (S : SgAt w bs bd name base en size n mv ms) (hE : Evolves w w' bd bm room fs fs')
    (ha : ¬ DiskB bd bm fs bs) (hm : ∀ k, mv.ownBlock = some k → ¬ DiskB bd bm fs k) : SgAt w' bs bd name base en size n mv ms :=
  ⟨(hE.touch.block _ (Vd.lt_of_heap S.cell) ha).trans S.cell, Vd.ownsRow_at S.own fun k hk => hE.touch.block k (World.ownsRow.lt S.own k hk).2 (hm k hk)⟩
/-- what the disk's Append leaves -/
def DiskPost (bd bm room : Nat) (name : ByteArray) (fs : List Fil) (t : List UInt8) (W w' : World) : Prop :=
  ∃ f', f'.name = name ∧ f'.b = t ∧ Evolves W w' bd bm room fs [f']
theorem disk_append {w : World} {bs bd bm room : Nat} {name : ByteArray} {base : Nat} {fs : List Fil} {xs : List Bat} {mv : Value} (h : SegAt w bs bd bm room name base fs xs mv) (s : ByteArray) (hr : (text xs).length + s.size ≤ room) :
    Calls Tryz.prog 60 #[.pointer (some ⟨bd, 0, none⟩), .string name, .string s] w fun e w' => e = .returned (.int .i64 0) ∧ DiskPost bd bm room name fs (text xs ++ s.data.toList) w w' := by
  rcases h.file with ⟨rfl, rfl⟩ | ⟨f, rfl, hn, hb⟩
  · refine (append_new h.disk name s h.good (by simp) (by simp) (by have : (text []).length = 0 := rfl; simp [total]; omega)).mono ?_
    rintro e w' ⟨rfl, bf, v', hE⟩
    exact ⟨rfl, _, rfl, rfl, hE⟩
  · refine (append_some (l1 := []) (l2 := []) f h.disk name s hn (by simp only [List.nil_append, total, List.map_cons, List.map_nil, List.sum_cons, List.sum_nil, hb]; omega)).mono ?_
    rintro e w' ⟨rfl, v', hE⟩
    exact ⟨rfl, { f with v := v', b := f.b ++ s.data.toList }, hn, by show f.b ++ _ = _; rw [hb], hE⟩
theorem disk_append_in {w : World} {bs bd bm room : Nat} {name : ByteArray} {base : Nat} {fs : List Fil} {xs : List Bat} {mv : Value} (h : SegAt w bs bd bm room name base fs xs mv) (s : ByteArray) (hr : (text xs).length + s.size ≤ room) :
    ∀ W, Below w.heap.size w W → Calls Tryz.prog 60 #[.pointer (some ⟨bd, 0, none⟩), .string name, .string s] W fun e w' => e = .returned (.int .i64 0) ∧ DiskPost bd bm room name fs (text xs ++ s.data.toList) W w' ∧
      SgAt w' bs bd name base (endOf base xs) (text xs).length xs.length mv (marks xs) ∧ ∀ k, w.heap.size ≤ k → k < W.heap.size → w'.heap[k]? = W.heap[k]? := by
  intro W hW
  refine (disk_append (h.below hW) s hr).mono ?_
  rintro e w' ⟨rfl, f', hn, hb, hE⟩
  refine ⟨rfl, ⟨f', hn, hb, hE⟩, (h.seg.below hW).evolved hE h.apart.1 h.apart.2, fun k hk1 hk2 => hE.touch.block k hk2 fun hD => ?_⟩
  have := h.disk.lt k hD
  omega
end Go.Proofs.YtcioejacijkbcaaGreatDoor.Sg
/- segment: Append of a batch that comes next, segment and disk together. -/
namespace Go.Proofs.YtcioejacijkbcaaGreatDoor.Sg
open Go.RowKit Go.Maps Go.ChangeMaps Go.WideMaps Go.Proofs.YtcioejacijkbcaaGreatDoor.Vd Go.Proofs.YtcioejacijkbcaaGreatDoor.Rc Go.Proofs.YtcioejacijkbcaaGreatDoor.Ba
set_option linter.unusedVariables false
theorem seg_append {w : World} {bs bd bm room : Nat} {name : ByteArray} {base : Nat} {fs : List Fil} {xs : List Bat} {mv : Value} (h : SegAt w bs bd bm room name base fs xs mv) (x : Bat) (hx : x.Ok) (hb : x.b = endOf base xs) (s : ByteArray) (hs : s.data.toList = x.l) (hr : (text xs).length + s.size ≤ room) :
    Calls Tryz.prog 26 #[.pointer (some ⟨bs, 0, none⟩), .string s] w fun e w' => e = .returned (.int .i64 0) ∧ ∃ fs' mv', SegAt w' bs bd bm room name base fs' (xs ++ [x]) mv' ∧
      Vd.Touch (fun k => k = bs ∨ mv.ownBlock = some k ∨ DiskB bd bm fs k) w w' ∧ (∀ k, DiskB bd bm fs' k ∨ mv'.ownBlock = some k → DiskB bd bm fs k ∨ mv.ownBlock = some k ∨ w.heap.size ≤ k) := by
  have hsm := h.disk.small
  have hln := len_text h.chain
  have hml := marks_length xs
  have S := h.seg
  have HD := disk_append_in h s hr
  rw [← hb] at S HD
  refine (append_next x S hx s hs (by omega) (by omega) (by omega) 0 (DiskPost bd bm room name fs (text xs ++ s.data.toList)) HD).mono ?_
  rintro e w' ⟨rfl, W, w1, hbW, ⟨f', hn, hfb, hE⟩, hor⟩
  rcases hor with ⟨h0, _⟩ | ⟨_, mv', hS', hT, hN⟩
  · exact absurd rfl h0
  have hbs := Vd.lt_of_heap S.cell
  have hown : ∀ k, mv.ownBlock = some k → k < w.heap.size := fun k hk => (World.ownsRow.lt S.own k hk).2
  have hWs := hbW.size
  have hnb : ∀ k, DiskB bd bm [f'] k → ¬ (k = bs ∨ mv.ownBlock = some k) := by
    intro k hk hc
    rcases hE.new k hk with h1 | h1
    · rcases hc with rfl | hc
      · exact h.apart.1 h1
      · exact h.apart.2 k hc h1
    · rcases hc with rfl | hc
      · omega
      · have := hown k hc; omega
  refine ⟨rfl, [f'], mv', ⟨?_, ?_, h.chain.snoc hx hb, h.good, .inr ⟨f', rfl, hn, by rw [hfb, text_snoc, hs]⟩, ?_, ?_⟩, ?_, ?_⟩
  · exact hE.disk.kept fun k hk => hT.block k (hE.disk.lt k hk) (hnb k hk)
  · rw [endOf_snoc, text_snoc, marks_snoc, List.length_append, List.length_append, ← hb]
    exact hS'
  · exact fun hD => hnb bs hD (.inl rfl)
  · intro k hk hD
    rcases hN k hk with h1 | h1
    · exact hnb k hD (.inr h1)
    · have := hE.disk.lt k hD; omega
  · have t1 : Vd.Touch (fun k => k = bs ∨ mv.ownBlock = some k ∨ DiskB bd bm fs k) w W := Vd.Touch.ofBelow hbW
    have t2 := t1.trans hE.touch (fun x hx => .inl (.inr (.inr hx)))
    exact t2.trans hT (fun x hx => .inl (hx.imp id .inl))
  · rintro k (hk | hk)
    · rcases hE.new k hk with h1 | h1
      · exact .inl h1
      · exact .inr (.inr (by omega))
    · rcases hN k hk with h1 | h1
      · exact .inr (.inl h1)
      · have := hE.touch.size; exact .inr (.inr (by omega))
end Go.Proofs.YtcioejacijkbcaaGreatDoor.Sg
/- segment: Open on an empty disk, segment and disk together. -/
namespace Go.Proofs.YtcioejacijkbcaaGreatDoor.Sg
open Go.RowKit Go.Maps Go.ChangeMaps Go.WideMaps Go.Proofs.YtcioejacijkbcaaGreatDoor.Vd Go.Proofs.YtcioejacijkbcaaGreatDoor.Rc Go.Proofs.YtcioejacijkbcaaGreatDoor.Ba
set_option linter.unusedVariables false
theorem seg_open {w : World} {bd bm room : Nat} (D : DiskAt w bd bm room []) (s : ByteArray) (hG : Vd.Good s) (base : Nat) (hb : base ≤ 1099511627520) :
    Calls Tryz.prog 71 #[.pointer (some ⟨bd, 0, none⟩), .string s, .int .i64 base] w fun e w' => ∃ b, e = .returned (.tuple #[.pointer (some ⟨b, 0, none⟩), .int .i64 0, .int .i64 0]) ∧ w.heap.size ≤ b ∧ SegAt w' b bd bm room s base [] [] (.slice none 0 0) ∧ Below w.heap.size w w' := by
  refine (open_new D s hG (by simp) base hb).mono ?_
  rintro e w' ⟨b, rfl, hlt, hS, hB⟩
  refine ⟨b, rfl, hlt, ⟨D.below hB, hS, trivial, hG, .inl ⟨rfl, rfl⟩, fun hD => ?_, fun k hk => ?_⟩, hB⟩
  · have := D.lt b hD; omega
  · simp [Value.ownBlock] at hk
end Go.Proofs.YtcioejacijkbcaaGreatDoor.Sg
/- the segment law: begun. -/
namespace Go.Proofs.YtcioejacijkbcaaGreatDoor.Sg
open Go.RowKit Go.Maps Go.ChangeMaps Go.WideMaps Go.Proofs.YtcioejacijkbcaaGreatDoor.Vd Go.Proofs.YtcioejacijkbcaaGreatDoor.Rc Go.Proofs.YtcioejacijkbcaaGreatDoor.Ba
set_option linter.unusedVariables false
def seg : ByteArray := { data := #[115, 101, 103] }
theorem good_seg : Vd.Good { data := #[115, 101, 103] } := good_str [115, 101, 103] (by decide) (by decide) (by decide)
end Go.Proofs.YtcioejacijkbcaaGreatDoor.Sg
/- a batch by a recipe (pure). -/
namespace Go.Proofs.YtcioejacijkbcaaGreatDoor.Sg
open Go.RowKit Go.Proofs.YtcioejacijkbcaaGreatDoor.Su Go.Proofs.YtcioejacijkbcaaGreatDoor.Bt Go.Proofs.YtcioejacijkbcaaGreatDoor.Sb Go.Proofs.YtcioejacijkbcaaGreatDoor.Rc Go.Proofs.YtcioejacijkbcaaGreatDoor.Ba
set_option linter.unusedVariables false
/-- the record of a recipe -/
def mrec (base k : Nat) (v : ByteArray) (g : Bool) (i : Nat) : Rec := ⟨(base + i : Nat), { data := #[UInt8.ofNat (97 + (k + i * 3) % 5)] }, v, g⟩
def mrecs (base k : Nat) (v : ByteArray) (g : Bool) (n : Nat) : List Rec := (List.range n).map (mrec base k v g)
theorem mrecs_length (base k : Nat) (v : ByteArray) (g : Bool) (n : Nat) : (mrecs base k v g n).length = n := by simp [mrecs]
theorem mrecs_snoc (base k : Nat) (v : ByteArray) (g : Bool) (n : Nat) : mrecs base k v g (n + 1) = mrecs base k v g n ++ [mrec base k v g n] := by simp [mrecs, List.range_succ]
theorem nextOf_mrecs (base k : Nat) (v : ByteArray) (g : Bool) (n : Nat) : nextOf base (mrecs base k v g n) = (base + n : Nat) := by
  cases n with
  | zero => rfl
  | succ n => rw [mrecs_snoc, nextOf_snoc]; simp only [mrec]; omega
theorem rise_mrecs (base k : Nat) (v : ByteArray) (g : Bool) (hv : v.size ≤ 4096) (hg : g = true → v.size = 0) (n : Nat) (hb : base + n ≤ 1099511627776) : rise base (mrecs base k v g n) = true := by
  induction n with
  | zero => rfl
  | succ n ih =>
    rw [mrecs_snoc, rise_snoc, ih (by omega), nextOf_mrecs]
    have h1 : (!g || decide (v.size = 0)) = true := by
      cases g with
      | false => rfl
      | true => simpa using hg rfl
    have hm : mayRec ((base + n : Nat) : Int) { data := #[UInt8.ofNat (97 + (k + n * 3) % 5)] } v g = true := by
      unfold mayRec
      rw [h1, decide_eq_true (show (0 : Int) ≤ ((base + n : Nat) : Int) by omega), decide_eq_true (show ((base + n : Nat) : Int) < 1099511627776 by omega), decide_eq_true hv, decide_eq_true (show (ByteArray.mk #[UInt8.ofNat (97 + (k + n * 3) % 5)]).size ≤ 64 from (by decide : 1 ≤ 64))]
      rfl
    rw [show (mrec base k v g n).may = true from hm, decide_eq_true (show ((base + n : Nat) : Int) ≤ (mrec base k v g n).o from Int.le_refl _)]
    rfl
theorem last_mrecs (base k : Nat) (v : ByteArray) (g : Bool) (n : Nat) : ((mrecs base k v g (n + 1)).getD ((mrecs base k v g (n + 1)).length - 1) default).o = (base + n : Nat) := by
  rw [mrecs_length, Nat.add_sub_cancel, List.getD_eq_getElem?_getD, mrecs_snoc, List.getElem?_append_right (by rw [mrecs_length]; exact Nat.le_refl _), mrecs_length, Nat.sub_self]
  rfl
/-- the batch of a recipe -/
def made (base c k p q : Nat) (v : ByteArray) : Bat := ⟨base, 1 + c, 0, p, q, mrecs base k (if k = 7 then ⟨#[]⟩ else v) (decide (k = 7)) (1 + c)⟩
theorem made_ok (base c k p q : Nat) (v : ByteArray) (hc : c < 8) (hp : p < 256) (hq : q < 65536) (hb : base ≤ 1099511627520) (hv : v.size ≤ 4096) : (made base c k p q v).Ok := by
  have hv' : (if k = 7 then (⟨#[]⟩ : ByteArray) else v).size ≤ 4096 := by
    split
    · exact Nat.zero_le _
    · exact hv
  have hg : decide (k = 7) = true → (if k = 7 then (⟨#[]⟩ : ByteArray) else v).size = 0 := by
    intro h
    rw [if_pos (of_decide_eq_true h)]
    rfl
  have hr := rise_mrecs base k _ _ hv' hg (1 + c) (by omega)
  have hl := mrecs_length base k (if k = 7 then (⟨#[]⟩ : ByteArray) else v) (decide (k = 7)) (1 + c)
  have hz := last_mrecs base k (if k = 7 then (⟨#[]⟩ : ByteArray) else v) (decide (k = 7)) c
  rw [Nat.add_comm c 1] at hz
  have hk : okRecs base (mrecs base k (if k = 7 then ⟨#[]⟩ else v) (decide (k = 7)) (1 + c)) = true := by
    unfold okRecs
    rw [hr, Bool.and_true, Bool.and_eq_true, decide_eq_true_eq, decide_eq_true_eq]
    omega
  refine ⟨?_, ?_⟩
  · show mayB base (1 + c : Nat) 0 p q (mrecs base k (if k = 7 then ⟨#[]⟩ else v) (decide (k = 7)) (1 + c)) = true
    unfold mayB
    rw [hk, Bool.true_and, hz, Bool.and_eq_true]
    refine ⟨?_, ?_⟩
    · unfold headed
      simp only [inr_eq, Bool.and_eq_true, decide_eq_true_eq]
      omega
    · rw [Bool.or_eq_true]
      right
      rw [decide_eq_true_eq]
      omega
  · show (recsStr base (mrecs base k (if k = 7 then ⟨#[]⟩ else v) (decide (k = 7)) (1 + c))).size ≤ 262115
    unfold recsStr
    rw [if_pos hk, str_size]
    have := allBytes_length base _ (may_of_rise _ _ hr) (by omega)
    rw [hl] at this
    omega
theorem Bat.Ok.parts {b c v p q : Nat} {rs : List Rec} (h : (Bat.mk b c v p q rs).Ok) : mayB b c v p q rs = true ∧ (recsStr b rs).size ≤ 262115 := ⟨h.may, h.small⟩
theorem made_parts (base c k p q n : Nat) (v u : ByteArray) (g : Bool) (hn : n = 1 + c) (hu : (if k = 7 then ⟨#[]⟩ else v) = u) (hg : g = decide (k = 7)) (hc : c < 8) (hp : p < 256) (hq : q < 65536) (hb : base ≤ 1099511627520) (hv : v.size ≤ 4096) :
    mayB base n 0 p q (mrecs base k u g n) = true ∧ (recsStr base (mrecs base k u g n)).size ≤ 262115 ∧ str (made base c k p q v).l = str (outer (inner base n 0 p q 0 (mrecs base k u g n).length (recsStr base (mrecs base k u g n)).size (recsStr base (mrecs base k u g n)).data.toList)) := by
  have h := made_ok base c k p q v hc hp hq hb hv
  have e : made base c k p q v = ⟨base, n, 0, p, q, mrecs base k u g n⟩ := by unfold made; rw [← hn, hu, ← hg]
  rw [e] at h ⊢
  obtain ⟨h1, h2⟩ := h.parts
  exact ⟨h1, h2, by simp only [Bat.l, Int.natCast_zero]⟩
end Go.Proofs.YtcioejacijkbcaaGreatDoor.Sg
