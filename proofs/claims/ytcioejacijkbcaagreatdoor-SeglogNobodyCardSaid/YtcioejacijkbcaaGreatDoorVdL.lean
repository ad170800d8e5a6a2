/- vdisk: Names. -/
import Derived.Test.YtcioejacijkbcaaGreatDoorVdK
import Derived.Test.YtcioejacijkbcaaGreatDoorShelf
import Derived.Sort.OwnSorted
import Derived.Maps.AppendAt
import Derived.Sort.KeysCollected
namespace Go.Proofs.YtcioejacijkbcaaGreatDoor.Vd
open Go.RowKit Go.Maps Go.ChangeMaps Go.WideMaps Go.Sort
set_option linter.unusedVariables false

def nm (f : Fil) : List UInt8 := f.name.data.toList
def seenNames : List Fil → List MapEntry → Array Nat → List (List UInt8)
  | f :: fs, e :: es, seen => if seen.contains e.born = true then nm f :: seenNames fs es seen else seenNames fs es seen
  | _, _, _ => []
theorem seenNames_none : ∀ (fs : List Fil) (es : List MapEntry), seenNames fs es #[] = []
  | f :: fs, e :: es => by simp [seenNames, seenNames_none fs es]
  | [], _ => by simp [seenNames]
  | _ :: _, [] => by simp [seenNames]
theorem seenNames_all : ∀ (fs : List Fil) (es : List MapEntry) (seen : Array Nat), es.length = fs.length → (∀ x ∈ es, seen.contains x.born = true) → seenNames fs es seen = fs.map nm
  | f :: fs, e :: es, seen, hl, h => by
    simp only [seenNames, h e (by simp), if_true, List.map_cons]
    rw [seenNames_all fs es seen (by simpa using hl) (fun x hx => h x (by simp [hx]))]
  | [], [], seen, _, _ => rfl
  | [], _ :: _, _, hl, _ => by simp at hl
  | _ :: _, [], _, hl, _ => by simp at hl
theorem seenNames_le : ∀ (fs : List Fil) (es : List MapEntry) (seen : Array Nat), (seenNames fs es seen).length ≤ fs.length
  | f :: fs, e :: es, seen => by
    have ih := seenNames_le fs es seen
    simp only [seenNames, List.length_cons]
    split
    · simp; omega
    · omega
  | [], _, _ => by simp [seenNames]
  | _ :: _, [], _ => by simp [seenNames]
theorem seenNames_other : ∀ (fs : List Fil) (es : List MapEntry) (seen : Array Nat) (b : Nat), b ∉ es.map (·.born) → seenNames fs es (seen.push b) = seenNames fs es seen
  | f :: fs, e :: es, seen, b, h => by
    simp only [List.map_cons, List.mem_cons, not_or] at h
    have hx : (e.born == b) = false := by simpa using fun e => h.1 e.symm
    simp only [seenNames, contains_push, hx, Bool.or_false, seenNames_other fs es seen b h.2]
  | [], _, _, _, _ => by simp [seenNames]
  | _ :: _, [], _, _, _ => by simp [seenNames]
theorem seenNames_push : ∀ (fs : List Fil) (es : List MapEntry) (seen : Array Nat) (e : MapEntry) (i : Nat) (f : Fil), es[i]? = some e → fs[i]? = some f → (es.map (·.born)).Nodup → seen.contains e.born = false →
    (seenNames fs es (seen.push e.born)).Perm (seenNames fs es seen ++ [nm f])
  | [], _, _, _, i, _, _, hf, _, _ => by simp at hf
  | _ :: _, [], _, _, i, _, he, _, _, _ => by simp at he
  | g :: fs, x :: es, seen, e, 0, f, he, hf, hn, hs => by
    simp at he hf; obtain rfl := he; obtain rfl := hf
    simp only [List.map_cons, List.nodup_cons] at hn
    have hx : (x.born == x.born) = true := by simp
    simp only [seenNames, seenNames_other fs es seen x.born hn.1, contains_push, hx, Bool.or_true, if_true, hs, Bool.false_eq_true, if_false]
    exact (List.perm_append_singleton _ _).symm
  | g :: fs, x :: es, seen, e, i + 1, f, he, hf, hn, hs => by
    simp at he hf
    simp only [List.map_cons, List.nodup_cons] at hn
    have ih := seenNames_push fs es seen e i f he hf hn.2 hs
    have hne : x.born ≠ e.born := fun h => hn.1 (h ▸ List.mem_map_of_mem (List.mem_of_getElem? he))
    have hx : (x.born == e.born) = false := by simpa using hne
    simp only [seenNames, contains_push, hx, Bool.or_false]
    split
    · exact ih.cons _
    · exact ih
theorem ownsRow_base {w : World} {base b' : Nat} {e : TypeId} {size : Nat} {v : Value} {n : Nat} {xs : List Value} (h : w.ownsRow base e size v n xs) (hb : b' ≤ base) : w.ownsRow b' e size v n xs := by
  obtain ⟨h1, h2⟩ := h
  refine ⟨h1, ?_⟩
  rcases h2 with h2 | ⟨g, cap, cur, h3, h4, h5⟩
  · exact .inl h2
  · exact .inr ⟨g, cap, cur, h3, by omega, h5⟩
theorem infoS : (Tryz.prog.info? 9).map (fun i => (i.zero, i.size, i.bytes)) = some (some (.string ByteArray.empty), 1, 16) := by kernel_rfl
theorem enc_nm (f : Fil) : Value.string f.name = encStr (nm f) := by simp [encStr, nm]

def sorted (fs : List Fil) : List (List UInt8) := (fs.map nm).mergeSort fun x y => decide (x ≤ y)
/-- Names hands back a new slice: all names, rising. -/
def NamesPost (w : World) (fs : List Fil) (e : Ending) (w' : World) : Prop :=
  ∃ v : Value, e = .returned v ∧ w'.ownsRow w.heap.size 9 1 v fs.length ((sorted fs).map encStr) ∧ Below w.heap.size w w'
theorem sort_any (v : Value) (ns : List (List UInt8)) (w : World) (base : Nat) (hown : w.ownsRow base 9 1 v ns.length (ns.map encStr)) (hl : ns.length ≤ 256) :
    Calls Tryz.prog 74 #[v] w fun e w' => e = .returned (.tuple #[]) ∧ w.grownBy w' v.ownBlock ∧ w'.ownsRow base 9 1 v ns.length ((ns.mergeSort fun x y => decide (x ≤ y)).map encStr) := by
  rcases hown.2 with ⟨rfl, h0⟩ | ⟨g, cap, cur, rfl, hbase, hb, h1, h2, h3, h4⟩
  · refine (Tryz.slices_Sort_string_none none 0 w).mono ?_
    rintro e w' ⟨rfl, rfl⟩
    have : ns = [] := List.length_eq_zero_iff.1 h0
    subst this
    exact ⟨rfl, ⟨rfl, rfl, rfl, Nat.le_refl _, fun _ _ _ => rfl⟩, by simpa using World.ownsRow_nil _ base _ 1⟩
  · refine (Tryz.slices_Sort_string g 0 cap ns w (holds_of_block hb (by simpa using h4)) (lt_of_heap hb) (by omega)).mono ?_
    rintro e w' ⟨rfl, n, os, rfl⟩
    exact ⟨rfl, grownBy_sorted _, ownsRow_sorted (by simp) hbase hb h1 h2 h3⟩
set_option maxRecDepth 100000 in
set_option maxHeartbeats 400000 in
theorem names_yes {w : World} {bd bm room : Nat} {fs : List Fil} (D : DiskAt w bd bm room fs) :
    Calls Tryz.prog 38 #[.pointer (some ⟨bd, 0, none⟩)] w (NamesPost w fs) := by
  obtain ⟨es, clock, hb, hst, hes, hk⟩ := D.map
  have hlen : es.toList.length = fs.length := by have := congrArg List.length hes; simpa using this
  have hc := cell_of D.disk 0
  simp only [List.getElem?_toArray, List.getElem?_cons_zero] at hc
  have hfew := D.few
  have hrg := run_range_map (P := Tryz.prog) w 92 _ _ bm es clock Tryz.underlying92 hb
  obtain ⟨i0, hi, hz0, hz1, hz2⟩ := info_parts infoS
  have HI := Lib.hid (And.intro hi (And.intro hz0 (And.intro hz1 hz2)))
  have HD := Lib.hid D
  have HE := Lib.hid hes
  have HL := Lib.hid hlen
  have HS := Lib.hid hst
  have HB := Lib.hid hb
  clear D hes hlen hk hst hb hi hz0 hz1 hz2
  go_enter Tryz.func38, Tryz.ntmps38
  go_wp2_with (go_at_call 73; refine (given_any w bd (some bm) hc).mono ?_; rintro e w' ⟨rfl, rfl⟩)
  go_loopw [3, 4] (fun s _ w' => ∃ (seen : Array Nat) (ns : List (List UInt8)), w'.heap[w.heap.size]? = some (.mapIter (some bm) clock seen clock) ∧ Below w.heap.size w w' ∧ w'.ownsRow (w.heap.size + 1) 9 1 s ns.length (ns.map encStr) ∧ ns.Perm (seenNames fs es.toList seen)) (fun _ _ w' => (leftOf es (w'.iterSeen w.heap.size)).size)
  case atStart => exact ⟨#[], [], heap_alloc_new _ _, (Below.refl _ _).alloc (Nat.le_refl _) _, World.ownsRow_nil _ _ _ _, by rw [seenNames_none]⟩
  case round =>
    obtain ⟨seen, ns, hit, hbl, hown, hperm⟩ := hrel
    have hle := seenNames_le fs es.toList seen
    have hpl := hperm.length_eq
    have hb1 := (hbl.block bm (lt_of_heap HB.out)).trans HB.out
    rcases Mp.next (P := Tryz.prog) _ 0 w.heap.size bm clock clock seen es clock hit hb1 HS.out.1 (Nat.le_refl _) with ⟨h0, hrun⟩ | ⟨e, he, w2, hw2, hrun⟩
    · rw [seenNames_all fs es.toList seen HL.out (all_seen es seen h0)] at hperm
      have hnx : ∀ ty, (Instr.next (.pointer (some ⟨w.heap.size, 0, none⟩)) false ty).run Tryz.prog wr = _ := fun _ => hrun
      have hnl : ns.length = fs.length := by rw [hperm.length_eq]; simp
      have HP := Lib.hid hperm
      have HO := Lib.hid hown
      have HN := Lib.hid hnl
      clear hperm hrun hit hb1 h0 hown hnl
      go_wp2_with (go_at_call 74; refine (sort_any u3 ns _ _ HO.out (by have := HN.out; omega)).mono ?_; rintro e w4 ⟨rfl, hgr, hown4⟩)
      go_ret
      refine ⟨u3, rfl, ?_, hbl.grown hgr hbl.size (fun k hk => by have := (HO.out.lt k hk).1; omega)⟩
      have e1 : ns.mergeSort (fun x y => decide (x ≤ y)) = sorted fs := mergeSort_of_perm HP.out
      rw [e1, HN.out] at hown4
      exact ownsRow_base hown4 (by omega)
    · obtain ⟨hee, hes0⟩ := mem_left he
      obtain ⟨i, hi⟩ := List.mem_iff_getElem?.1 hee
      have hkv : (es.toList.map (fun e => (e.key, e.val)))[i]? = some (e.key, e.val) := by rw [List.getElem?_map, hi]; rfl
      rw [HE.out, List.getElem?_map] at hkv
      obtain ⟨f, hf, hfe⟩ := Option.map_eq_some_iff.1 hkv
      have hkey : e.key = .string f.name := by rw [← (Prod.mk.inj hfe).1]
      have hpush := seenNames_push fs es.toList seen e i f hi hf HS.out.2.1 hes0
      have hlt2 := left_shrinks es seen e he
      have hbw : Below w.heap.size w w2 := by rcases hw2 with rfl | rfl; exact hbl; exact hbl.drew
      have hit2 : w2.heap[w.heap.size]? = some (.mapIter (some bm) clock seen clock) := by rcases hw2 with rfl | rfl <;> exact hit
      have hown2 : w2.ownsRow (w.heap.size + 1) 9 1 u3 ns.length (ns.map encStr) := by rcases hw2 with rfl | rfl <;> exact hown
      obtain ⟨w3, hw3⟩ : ∃ w3, w3 = setBlock w2 w.heap.size (.mapIter (some bm) clock (seen.push e.born) clock) := ⟨_, rfl⟩
      have hbl3 : Below w.heap.size w w3 := hw3 ▸ Mp.below_setBlock hbw (Nat.le_refl _) _
      have hit3 : w3.heap[w.heap.size]? = some (.mapIter (some bm) clock (seen.push e.born) clock) := hw3 ▸ Mp.setBlock_self (lt_of_heap hit2) _
      have hown3 : w3.ownsRow (w.heap.size + 1) 9 1 u3 ns.length (ns.map encStr) := ownsRow_at hown2 (fun k hk => by rw [hw3]; exact Mp.setBlock_other (by have := (hown2.lt k hk).1; omega) _)
      have hb3 := (hbl3.block bm (lt_of_heap HB.out)).trans HB.out
      have hen := Mp.entry (P := Tryz.prog) w3 w.heap.size bm clock seen es clock e hit3 hb3 hee HS.out.2.1
      rw [hkey] at hen hrun
      rw [← hw3] at hrun
      have hsz3 : w.heap.size + 1 ≤ w3.heap.size := by have := lt_of_heap hit3; omega
      have HO := Lib.hid hown3
      have HP := Lib.hid (hpush.trans (List.Perm.append_right [nm f] hperm.symm))
      have HI3 := Lib.hid hit3
      have HI0 := Lib.hid (Mp.iterSeen_at hit)
      have hnx : ∀ ty, (Instr.next (.pointer (some ⟨w.heap.size, 0, none⟩)) false ty).run Tryz.prog wr = _ := fun _ => hrun
      have hlf : i < fs.length := (List.getElem?_eq_some_iff.1 hf).1
      obtain ⟨g1, g2, g3, g4⟩ := HI.out
      clear hpush hit3 hit hit2 hb1 hb3 hw3 hfe hkv hi hf hkey hw2 hrun hee hes0 he hbw hown hown2 hown3 hperm g1 g2 g3 g4
      go_wp2_with (at_builtin; refine wpList_append_own_at _ rfl _ _ 46 rfl (w.heap.size + 1) 9 i0 (.string ByteArray.empty) 1 16 Tryz.underlying46 HI.out.1 HI.out.2.1 HI.out.2.2.1 HI.out.2.2.2 rfl (by decide) _ _ _ rfl (HO.out.alloc _) ⟨w3.heap.size, 0, none⟩ 1 1 [.string f.name] rfl rfl (cell_one_new _ _ _) (by intro u hu; simp at hu; subst hu; rfl) (by unfold maxLen; omega) (by omega) (by simp; omega) ?_; intro v' w4 hown4 hgrow4 hnil4 hat4)
      have hit4 : w4.heap[w.heap.size]? = some (.mapIter (some bm) clock (seen.push e.born) clock) := (hgrow4.block _ (by simp; omega) (by intro e1; have := (HO.out.lt _ e1.symm).1; omega)).trans ((heap_alloc_old _ _ (by omega)).trans HI3.out)
      have hbl4 : Below w.heap.size w w4 := (hbl3.alloc hbl3.size _).grown hgrow4 (by simp; omega) (fun k hk => by have := (HO.out.lt k hk).1; omega)
      have hown5 : w4.ownsRow (w.heap.size + 1) 9 1 v' (ns ++ [nm f]).length ((ns ++ [nm f]).map encStr) := by simpa [enc_nm] using hown4
      have H5 := Lib.hid hown5
      have HI4 := Lib.hid hit4
      have HM := Lib.hid (Mp.iterSeen_at hit4)
      clear hown4 hgrow4 hnil4 hat4 hit4 hown5 hbl3
      go_wp2
      go_roundw
      case rel => exact ⟨seen.push e.born, ns ++ [nm f], HI4.out, hbl4, H5.out, HP.out.symm⟩
      case measure => rw [HI0.out, HM.out]; exact hlt2
end Go.Proofs.YtcioejacijkbcaaGreatDoor.Vd
