/- vdisk: Used, and what only reads: Size, Synced, Read. -/
import Derived.Test.YtcioejacijkbcaaGreatDoorVdB
import Derived.LoopTactic
import Derived.Laws.IdiomRangeMap
namespace Go.Proofs.YtcioejacijkbcaaGreatDoor.Vd
open Go.RowKit Go.Maps Go.ChangeMaps Go.WideMaps
set_option linter.unusedVariables false

/-- the bytes of those entries that were seen -/
def seenLen : List Fil → List MapEntry → Array Nat → Nat
  | f :: fs, e :: es, seen => (if seen.contains e.born = true then f.b.length else 0) + seenLen fs es seen
  | _, _, _ => 0
theorem seenLen_none : ∀ (fs : List Fil) (es : List MapEntry), seenLen fs es #[] = 0
  | f :: fs, e :: es => by simp [seenLen, seenLen_none fs es]
  | [], _ => by simp [seenLen]
  | _ :: _, [] => by simp [seenLen]
theorem seenLen_all : ∀ (fs : List Fil) (es : List MapEntry) (seen : Array Nat), es.length = fs.length → (∀ x ∈ es, seen.contains x.born = true) → seenLen fs es seen = total fs
  | f :: fs, e :: es, seen, hl, h => by
    simp only [seenLen, h e (by simp), if_true, total, List.map_cons, List.sum_cons]
    rw [seenLen_all fs es seen (by simpa using hl) (fun x hx => h x (by simp [hx]))]; rfl
  | [], [], seen, _, _ => rfl
  | [], _ :: _, _, hl, _ => by simp at hl
  | _ :: _, [], _, hl, _ => by simp at hl
theorem seenLen_le : ∀ (fs : List Fil) (es : List MapEntry) (seen : Array Nat), seenLen fs es seen ≤ total fs
  | f :: fs, e :: es, seen => by
    have ih := seenLen_le fs es seen
    simp only [seenLen, total, List.map_cons, List.sum_cons]
    unfold total at ih
    split <;> omega
  | [], _, _ => by simp [seenLen]
  | _ :: _, [], _ => by simp [seenLen]
theorem seenLen_other : ∀ (fs : List Fil) (es : List MapEntry) (seen : Array Nat) (b : Nat), b ∉ es.map (·.born) → seenLen fs es (seen.push b) = seenLen fs es seen
  | f :: fs, e :: es, seen, b, h => by
    simp only [List.map_cons, List.mem_cons, not_or] at h
    have hx : (e.born == b) = false := by simpa using fun e => h.1 e.symm
    simp only [seenLen, contains_push, hx, Bool.or_false, seenLen_other fs es seen b h.2]
  | [], _, _, _, _ => by simp [seenLen]
  | _ :: _, [], _, _, _ => by simp [seenLen]
theorem seenLen_push : ∀ (fs : List Fil) (es : List MapEntry) (seen : Array Nat) (e : MapEntry) (i : Nat) (f : Fil), es[i]? = some e → fs[i]? = some f → (es.map (·.born)).Nodup → seen.contains e.born = false →
    seenLen fs es (seen.push e.born) = seenLen fs es seen + f.b.length
  | [], _, _, _, i, _, _, hf, _, _ => by simp at hf
  | _ :: _, [], _, _, i, _, he, _, _, _ => by simp at he
  | g :: fs, x :: es, seen, e, 0, f, he, hf, hn, hs => by
    simp at he hf; obtain rfl := he; obtain rfl := hf
    simp only [List.map_cons, List.nodup_cons] at hn
    have hx : (x.born == x.born) = true := by simp
    simp only [seenLen, seenLen_other fs es seen x.born hn.1, contains_push, hx, Bool.or_true, if_true, hs, Bool.false_eq_true, if_false]
    omega
  | g :: fs, x :: es, seen, e, i + 1, f, he, hf, hn, hs => by
    simp at he hf
    simp only [List.map_cons, List.nodup_cons] at hn
    have ih := seenLen_push fs es seen e i f he hf hn.2 hs
    have hne : x.born ≠ e.born := fun h => hn.1 (h ▸ List.mem_map_of_mem (List.mem_of_getElem? he))
    have hx : (x.born == e.born) = false := by simpa using hne
    simp only [seenLen, contains_push, hx, Bool.or_false]
    omega

set_option maxRecDepth 100000 in
theorem used_yes {w : World} {bd bm room : Nat} {fs : List Fil} (D : DiskAt w bd bm room fs) :
    Calls Tryz.prog 101 #[.pointer (some ⟨bd, 0, none⟩)] w fun e w' => e = .returned (.int .i64 (total fs)) ∧ Below w.heap.size w w' := by
  obtain ⟨es, clock, hb, hst, hes, hk⟩ := D.map
  have hlen : es.toList.length = fs.length := by have := congrArg List.length hes; simpa using this
  have hc := cell_of D.disk 0
  simp only [List.getElem?_toArray, List.getElem?_cons_zero] at hc
  have hroom := D.roomy
  have hsm := D.small
  have hrg := run_range_map (P := Tryz.prog) w 92 _ _ bm es clock Tryz.underlying92 hb
  have HD := Lib.hid D
  have HE := Lib.hid hes
  have HL := Lib.hid hlen
  have HS := Lib.hid hst
  have HB := Lib.hid hb
  clear D hes hlen hk hst hb
  go_enter Tryz.func101, Tryz.ntmps101
  go_wp2_with (go_at_call 73; refine (given_any w bd (some bm) hc).mono ?_; rintro e w' ⟨rfl, rfl⟩)
  go_loopw [3, 5] (fun s _ w' => ∃ (seen : Array Nat), w'.heap[w.heap.size]? = some (.mapIter (some bm) clock seen clock) ∧ Below w.heap.size w w' ∧ s = .int .i64 (seenLen fs es.toList seen)) (fun _ _ w' => (leftOf es (w'.iterSeen w.heap.size)).size)
  case atStart => exact ⟨#[], heap_alloc_new _ _, (Below.refl _ _).alloc (Nat.le_refl _) _, by rw [seenLen_none]; rfl⟩
  case round =>
    obtain ⟨seen, hit, hbl, rfl⟩ := hrel
    have hle := seenLen_le fs es.toList seen
    have hb1 := (hbl.block bm (lt_of_heap HB.out)).trans HB.out
    rcases Mp.next (P := Tryz.prog) _ 0 w.heap.size bm clock clock seen es clock hit hb1 HS.out.1 (Nat.le_refl _) with ⟨h0, hrun⟩ | ⟨e, he, w2, hw2, hrun⟩
    · have hall := seenLen_all fs es.toList seen HL.out (all_seen es seen h0)
      have HA := Lib.hid hall
      have hnx : ∀ ty, (Instr.next (.pointer (some ⟨w.heap.size, 0, none⟩)) false ty).run Tryz.prog wr = _ := fun _ => hrun
      clear hall h0 hb1 hit hrun
      go_wp2
      go_ret
      exact ⟨ret_int (by rw [HA.out]), hbl⟩
    · obtain ⟨hee, hes0⟩ := mem_left he
      obtain ⟨i, hi⟩ := List.mem_iff_getElem?.1 hee
      have hkv : (es.toList.map (fun e => (e.key, e.val)))[i]? = some (e.key, e.val) := by rw [List.getElem?_map, hi]; rfl
      rw [HE.out, List.getElem?_map] at hkv
      obtain ⟨f, hf, hfe⟩ := Option.map_eq_some_iff.1 hkv
      have hval : e.val = .pointer (some ⟨f.bf, 0, none⟩) := by rw [← (Prod.mk.inj hfe).2]
      have hpush := seenLen_push fs es.toList seen e i f hi hf HS.out.2.1 hes0
      have hle2 := seenLen_le fs es.toList (seen.push e.born)
      have hlt2 := left_shrinks es seen e he
      have hbw : Below w.heap.size w w2 := by rcases hw2 with rfl | rfl; exact hbl; exact hbl.drew
      have hit2 : w2.heap[w.heap.size]? = some (.mapIter (some bm) clock seen clock) := by rcases hw2 with rfl | rfl <;> exact hit
      obtain ⟨w3, hw3⟩ : ∃ w3, w3 = setBlock w2 w.heap.size (.mapIter (some bm) clock (seen.push e.born) clock) := ⟨_, rfl⟩
      have hbl3 : Below w.heap.size w w3 := hw3 ▸ Mp.below_setBlock hbw (Nat.le_refl _) _
      have hit3 : w3.heap[w.heap.size]? = some (.mapIter (some bm) clock (seen.push e.born) clock) := hw3 ▸ Mp.setBlock_self (lt_of_heap hit2) _
      have hb3 := (hbl3.block bm (lt_of_heap HB.out)).trans HB.out
      have hen := Mp.entry (P := Tryz.prog) w3 w.heap.size bm clock seen es clock e hit3 hb3 hee HS.out.2.1
      rw [hval] at hen hrun
      rw [← hw3] at hrun
      have hFf := (HD.out.below hbl3).files f (List.mem_of_getElem? hf)
      have hcf := cell_of hFf.cell 0
      obtain ⟨ap, c, hv⟩ : ∃ ap c, f.v = .slice ap f.b.length c := by
        rcases hFf.own.2 with ⟨h1, h2⟩ | ⟨g, cap, cur, h1, _⟩
        · exact ⟨none, 0, by rw [h1, h2]⟩
        · exact ⟨_, _, h1⟩
      simp only [List.getElem?_toArray, List.getElem?_cons_zero, hv] at hcf
      have HP := Lib.hid hpush
      have HI := Lib.hid hit3
      have HI0 := Lib.hid (Mp.iterSeen_at hit)
      have HI3 := Lib.hid (Mp.iterSeen_at hit3)
      have hnx : ∀ ty, (Instr.next (.pointer (some ⟨w.heap.size, 0, none⟩)) false ty).run Tryz.prog wr = _ := fun _ => hrun
      have hbnd : seenLen fs es.toList seen + f.b.length ≤ 16777216 := by omega
      clear hpush hit3 hit hit2 hb1 hb3 hw3 hfe hkv hi hf hval hv hw2 hrun hee hes0 he hFf hbw
      go_wp2
      go_roundw
      case rel => exact ⟨seen.push e.born, HI.out, hbl3, by rw [HP.out]; go_num⟩
      case measure => rw [HI0.out, HI3.out]; exact hlt2
end Go.Proofs.YtcioejacijkbcaaGreatDoor.Vd
