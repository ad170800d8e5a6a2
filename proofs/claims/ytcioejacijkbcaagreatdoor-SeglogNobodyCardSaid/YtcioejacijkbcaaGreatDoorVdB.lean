/- vdisk: a disk as a list of files; find. -/
import Derived.Test.YtcioejacijkbcaaGreatDoorVdA
import Derived.Test.YtcioejacijkbcaaGreatDoorMaps
import Derived.OwnWalk
import Derived.Lib.AppendStr
import Derived.Lib.Hide
import Derived.Laws.OwnMore
namespace Go.Proofs.YtcioejacijkbcaaGreatDoor.Vd
open Go.RowKit Go.Maps Go.ChangeMaps Go.WideMaps
set_option linter.unusedVariables false

/-- What is outside F is as it was; streams too. -/
structure Touch (F : Nat → Prop) (w w' : World) : Prop where
  os : w'.os = w.os
  tape : w'.tape = w.tape
  output : w'.output = w.output
  size : w.heap.size ≤ w'.heap.size
  block : ∀ k, k < w.heap.size → ¬ F k → w'.heap[k]? = w.heap[k]?
theorem Touch.ofBelow {F : Nat → Prop} {w w' : World} (h : Below w.heap.size w w') : Touch F w w' := ⟨h.os, h.tape, h.output, h.size, fun k hk _ => h.block k hk⟩
theorem Touch.refl (F : Nat → Prop) (w : World) : Touch F w w := ⟨rfl, rfl, rfl, Nat.le_refl _, fun _ _ _ => rfl⟩
theorem Touch.trans {F G : Nat → Prop} {a b c : World} (h : Touch F a b) (k : Touch G b c) (hG : ∀ x, G x → F x ∨ a.heap.size ≤ x) : Touch F a c :=
  ⟨k.os.trans h.os, k.tape.trans h.tape, k.output.trans h.output, Nat.le_trans h.size k.size, fun i hi hn => (k.block i (Nat.lt_of_lt_of_le hi h.size) (fun g => by rcases hG i g with x | x; exact hn x; omega)).trans (h.block i hi hn)⟩
theorem Touch.mono {F G : Nat → Prop} {a b : World} (h : Touch F a b) (hG : ∀ x, F x → G x) : Touch G a b := ⟨h.os, h.tape, h.output, h.size, fun k hk hn => h.block k hk (fun x => hn (hG k x))⟩
theorem Touch.below {F : Nat → Prop} {B : Nat} {w w' : World} (h : Touch F w w') (hB : B ≤ w.heap.size) (hF : ∀ k, F k → B ≤ k) : Below B w w' := ⟨h.os, h.tape, h.output, h.size, fun k hk => h.block k (by omega) (fun x => by have := hF k x; omega)⟩
theorem Touch.grown {w w' : World} {row : Option Nat} (h : w.grownBy w' row) : Touch (fun k => row = some k) w w' := ⟨h.os, h.tape, h.output, h.size, fun k hk hn => h.block k hk (fun e => hn e.symm)⟩
theorem Touch.set {F : Nat → Prop} (w : World) (a : Addr) (v : Value) (h : F a.block) : Touch F w (w.setCell a v) := ⟨rfl, rfl, rfl, by simp [World.setCell], fun k _ hn => Below.heap_setCell w a v k (fun e => hn (e ▸ h))⟩

theorem ret_int {k : IntKind} {a b : Int} (h : a = b) : Ending.returned (.int k a) = .returned (.int k b) := by rw [h]
def bv (x : UInt8) : Value := .int .u8 x.toNat

/-- a file -/
structure Fil where
  name : ByteArray
  bf : Nat
  v : Value
  b : List UInt8
  sy : Nat
def Fil.blocks (f : Fil) : List Nat := f.bf :: f.v.ownBlock.toList
def Fil.kv (f : Fil) : Value × Value := (.string f.name, .pointer (some ⟨f.bf, 0, none⟩))
structure FilAt (w : World) (f : Fil) : Prop where
  cell : w.heap[f.bf]? = some (.cells #[f.v, .int .i64 f.sy] 116 (0, 0))
  own : w.ownsRow 0 5 1 f.v f.b.length (f.b.map bv)
  sy : f.sy ≤ f.b.length
def total (fs : List Fil) : Nat := (fs.map (fun f => f.b.length)).sum
structure DiskAt (w : World) (bd bm room : Nat) (fs : List Fil) : Prop where
  disk : w.heap[bd]? = some (.cells #[.map (some bm), .int .i64 room] 94 (0, 0))
  map : Mp.MapAt Tryz.prog 9 w bm (fs.map Fil.kv)
  files : ∀ f ∈ fs, FilAt w f
  apart : (bd :: bm :: fs.flatMap Fil.blocks).Nodup
  good : ∀ f ∈ fs, Good f.name
  roomy : total fs ≤ room
  small : room ≤ 16777216
  few : fs.length ≤ 256
def DiskB (bd bm : Nat) (fs : List Fil) (k : Nat) : Prop := k ∈ bd :: bm :: fs.flatMap Fil.blocks

theorem lt_of_heap {w : World} {k : Nat} {o : Obj} (h : w.heap[k]? = some o) : k < w.heap.size := (Array.getElem?_eq_some_iff.1 h).1
theorem cell_of {w : World} {b : Nat} {cs : Array Value} {t : TypeId} {fr : Nat × Nat} (h : w.heap[b]? = some (.cells cs t fr)) (i : Nat) : w.cell? ⟨b, i, none⟩ = cs[i]? := by simp [World.cell?, h]
theorem frozen_of {w : World} {b : Nat} {cs : Array Value} {t : TypeId} (h : w.heap[b]? = some (.cells cs t (0, 0))) (i : Nat) : w.frozen? ⟨b, i, none⟩ = false := by simp [World.frozen?, h]
theorem ownsRow_at {w w' : World} {base : Nat} {e : TypeId} {size : Nat} {v : Value} {n : Nat} {xs : List Value} (h : w.ownsRow base e size v n xs) (hb : ∀ k, v.ownBlock = some k → w'.heap[k]? = w.heap[k]?) : w'.ownsRow base e size v n xs := by
  obtain ⟨h1, h2⟩ := h
  refine ⟨h1, ?_⟩
  rcases h2 with h2 | ⟨g, cap, cur, rfl, hg, hh, r⟩
  · exact .inl h2
  · exact .inr ⟨g, cap, cur, rfl, hg, (hb g rfl).trans hh, r⟩
theorem FilAt.kept {w w' : World} {f : Fil} (h : FilAt w f) (hb : ∀ k ∈ f.blocks, w'.heap[k]? = w.heap[k]?) : FilAt w' f :=
  ⟨(hb _ (by simp [Fil.blocks])).trans h.cell, ownsRow_at h.own (fun k hk => hb k (by simp [Fil.blocks, hk])), h.sy⟩
theorem FilAt.lt {w : World} {f : Fil} (h : FilAt w f) : ∀ k ∈ f.blocks, k < w.heap.size := by
  intro k hk
  simp only [Fil.blocks, List.mem_cons, Option.mem_toList] at hk
  rcases hk with rfl | hk
  · exact lt_of_heap h.cell
  · exact (h.own.lt k hk).2
theorem DiskAt.kept {w w' : World} {bd bm room : Nat} {fs : List Fil} (h : DiskAt w bd bm room fs) (hb : ∀ k, DiskB bd bm fs k → w'.heap[k]? = w.heap[k]?) : DiskAt w' bd bm room fs :=
  ⟨(hb _ (by simp [DiskB])).trans h.disk, h.map.kept (hb _ (by simp [DiskB])), fun f hf => (h.files f hf).kept (fun k hk => hb k (by simp only [DiskB, List.mem_cons, List.mem_flatMap]; exact .inr (.inr ⟨f, hf, hk⟩))), h.apart, h.good, h.roomy, h.small, h.few⟩
theorem DiskAt.lt {w : World} {bd bm room : Nat} {fs : List Fil} (h : DiskAt w bd bm room fs) : ∀ k, DiskB bd bm fs k → k < w.heap.size := by
  intro k hk
  simp only [DiskB, List.mem_cons, List.mem_flatMap] at hk
  rcases hk with rfl | rfl | ⟨f, hf, hk⟩
  · exact lt_of_heap h.disk
  · exact h.map.lt
  · exact (h.files f hf).lt k hk
theorem DiskAt.below {w w' : World} {bd bm room : Nat} {fs : List Fil} (h : DiskAt w bd bm room fs) (hb : Below w.heap.size w w') : DiskAt w' bd bm room fs :=
  h.kept fun k hk => hb.block k (h.lt k hk)
/-- The files of a disk, by their names. -/
theorem DiskAt.names {w : World} {bd bm room : Nat} {fs : List Fil} (h : DiskAt w bd bm room fs) : (fs.map Fil.name).Nodup := by
  have := h.map.nodup
  rw [List.map_map] at this
  have e : (fs.map ((fun p : Value × Value => p.1) ∘ Fil.kv)) = (fs.map Fil.name).map Value.string := by simp [List.map_map, Function.comp_def, Fil.kv]
  rw [e] at this
  exact (List.pairwise_map.1 this).imp (fun h e => h (by rw [e])) |> fun h => List.pairwise_map.2 (List.pairwise_map.1 h)

theorem law : Keyed Tryz.prog 9 := string_keyed Tryz.underlying9
theorem zeroPtr (w : World) : (zeroValue 112).run Tryz.prog w = .ok (.pointer none) w := by kernel_rfl


set_option maxRecDepth 100000 in
theorem find_core {w : World} {bd bm : Nat} (s : ByteArray) (v : Option Addr) (ok : Bool) (hG : Good s) (hc : w.cell? ⟨bd, 0, none⟩ = some (.map (some bm))) (hbd : bd < w.heap.size)
    (hl : ∀ w1, Below w.heap.size w w1 → (Instr.lookup 92 (.map (some bm)) (.string s) true).run Tryz.prog w1 = .ok (.tuple #[.pointer v, .bool ok]) w1) :
    Calls Tryz.prog 62 #[.pointer (some ⟨bd, 0, none⟩), .string s] w fun e w' => e = .returned (.tuple #[if ok then .pointer v else .pointer none, .int .i64 (if ok then 0 else 3)]) ∧ Below w.heap.size w w' := by
  go_enter Tryz.func62, Tryz.ntmps62
  go_wp2_with fail
  refine (given_any w bd (some bm) hc).mono ?_
  rintro e w' ⟨rfl, rfl⟩
  go_wp2_with fail
  refine (named_yes _ s hG).mono ?_
  rintro e w1 ⟨rfl, hb⟩
  have hc1 : w1.cell? ⟨bd, 0, none⟩ = some (.map (some bm)) := (hb.cell (p := ⟨bd, 0, none⟩) hbd).trans hc
  have hl1 := hl w1 hb
  clear hl
  cases ok
  · go_wp2
    go_ret2
    exact ⟨rfl, hb⟩
  · go_wp2
    go_ret2
    exact ⟨rfl, hb⟩

theorem Good.key {s : ByteArray} (h : Good s) : keyOf Tryz.prog 9 (.string s) = some (.string s.data.toList) :=
  keyOf_string_mk Tryz.underlying9 (by have := h.2.1; unfold maxLen; omega)
theorem DiskAt.unique {w : World} {bd bm room : Nat} {fs : List Fil} (D : DiskAt w bd bm room fs) {f g : Fil} (hf : f ∈ fs) (hg : g ∈ fs) (h : f.name = g.name) : f = g := by
  have := D.names
  rw [List.nodup_iff_pairwise_ne, List.pairwise_map] at this
  rcases List.pairwise_iff_getElem.1 this with hp
  obtain ⟨i, hi, rfl⟩ := List.getElem_of_mem hf
  obtain ⟨j, hj, rfl⟩ := List.getElem_of_mem hg
  rcases Nat.lt_trichotomy i j with c | c | c
  · exact absurd h (hp i j hi hj c)
  · subst c; rfl
  · exact absurd h.symm (hp j i hj hi c)
theorem find_some {w : World} {bd bm room : Nat} {fs : List Fil} (D : DiskAt w bd bm room fs) (f : Fil) (hf : f ∈ fs) (s : ByteArray) (hs : f.name = s) :
    Calls Tryz.prog 62 #[.pointer (some ⟨bd, 0, none⟩), .string s] w fun e w' => e = .returned (.tuple #[.pointer (some ⟨f.bf, 0, none⟩), .int .i64 0]) ∧ Below w.heap.size w w' := by
  subst hs
  refine find_core f.name (some ⟨f.bf, 0, none⟩) true (D.good f hf) (cell_of D.disk 0) (lt_of_heap D.disk) ?_
  intro w1 hb
  have D1 := D.below hb
  rcases Mp.lookup D1.map law Tryz.underlying92 (zeroPtr w1) true (D.good f hf).key with ⟨h1, _⟩ | ⟨v, h1, h2⟩
  · exact absurd rfl (h1 _ (List.mem_map_of_mem hf))
  · obtain ⟨g, hg, e⟩ := List.mem_map.1 h1
    simp only [Fil.kv, Prod.mk.injEq, Value.string.injEq] at e
    obtain rfl := D.unique hg hf e.1
    rw [h2, ← e.2]; rfl
theorem find_none {w : World} {bd bm room : Nat} {fs : List Fil} (D : DiskAt w bd bm room fs) (s : ByteArray) (hG : Good s) (hs : ∀ f ∈ fs, f.name ≠ s) :
    Calls Tryz.prog 62 #[.pointer (some ⟨bd, 0, none⟩), .string s] w fun e w' => e = .returned (.tuple #[.pointer none, .int .i64 3]) ∧ Below w.heap.size w w' := by
  refine find_core s none false hG (cell_of D.disk 0) (lt_of_heap D.disk) ?_
  intro w1 hb
  have D1 := D.below hb
  rcases Mp.lookup D1.map law Tryz.underlying92 (zeroPtr w1) true hG.key with ⟨_, h1⟩ | ⟨v, h1, h2⟩
  · rw [h1]; rfl
  · obtain ⟨g, hg, e⟩ := List.mem_map.1 h1
    simp only [Fil.kv, Prod.mk.injEq, Value.string.injEq] at e
    exact absurd e.1 (hs g hg)
/-- a disk that nobody made: nil, or without a map -/
theorem find_nobody (w : World) (p : Option Addr) (s : ByteArray) (hp : ∀ a, p = some a → ∃ b, a = ⟨b, 0, none⟩ ∧ w.cell? ⟨b, 0, none⟩ = some (.map none)) :
    Calls Tryz.prog 62 #[.pointer p, .string s] w fun e w' => e = .returned (.tuple #[.pointer none, .int .i64 1]) ∧ w = w' := by
  rcases p with _ | a
  · clear hp
    go_enter Tryz.func62, Tryz.ntmps62
    go_wp2_with fail
    refine (given_nil w).mono ?_
    rintro e w' ⟨rfl, rfl⟩
    go_wp2
    go_ret2
    exact ⟨rfl, rfl⟩
  · obtain ⟨b, rfl, hc⟩ := hp a rfl
    clear hp
    go_enter Tryz.func62, Tryz.ntmps62
    go_wp2_with fail
    refine (given_any w b none hc).mono ?_
    rintro e w' ⟨rfl, rfl⟩
    go_wp2
    go_ret2
    exact ⟨rfl, rfl⟩
end Go.Proofs.YtcioejacijkbcaaGreatDoor.Vd
