/- vdisk: Append to a file that is not there: it is made, or refused. -/
import Derived.Test.YtcioejacijkbcaaGreatDoorVdI
namespace Go.Proofs.YtcioejacijkbcaaGreatDoor.Vd
open Go.RowKit Go.Maps Go.ChangeMaps Go.WideMaps
set_option linter.unusedVariables false

/-- a file that was just made -/
def fresh (s : ByteArray) (b : Nat) : Fil := { name := s, bf := b, v := .slice none 0 0, b := [], sy := 0 }
theorem created {w : World} {bd bm room : Nat} {fs : List Fil} (D : DiskAt w bd bm room fs) (s : ByteArray) (hG : Good s) (hs : ∀ f ∈ fs, f.name ≠ s) (hlen : fs.length < 256) :
    ∃ w3, (Instr.mapUpdate 92 (.map (some bm)) (.string s) (.pointer (some ⟨w.heap.size, 0, none⟩))).run Tryz.prog (w.alloc (.cells #[.slice none 0 0, .int .i64 0] 116)) = .ok () w3 ∧ Evolves w w3 bd bm room fs (fs ++ [fresh s w.heap.size]) := by
  have hb : Below w.heap.size w (w.alloc (.cells #[.slice none 0 0, .int .i64 0] 116)) := (Below.refl _ _).alloc (Nat.le_refl _) _
  have hnew : (w.alloc (.cells #[.slice none 0 0, .int .i64 0] 116)).heap[w.heap.size]? = some (.cells #[.slice none 0 0, .int .i64 0] 116 (0, 0)) := heap_alloc_new _ _
  generalize w.alloc (.cells #[.slice none 0 0, .int .i64 0] 116) = w2 at hb hnew ⊢
  have D2 := D.below hb
  obtain ⟨o, m', hrun, hM, hcase⟩ := Mp.store D2.map law Tryz.underlying92 hG.key (.pointer (some ⟨w.heap.size, 0, none⟩))
  have hap := D.apart
  have hlt := D.lt
  have hbm : bm < w.heap.size := D.map.lt
  refine ⟨_, hrun, ?_⟩
  have hout : ∀ k, k ≠ bm → (setBlock w2 bm o).heap[k]? = w2.heap[k]? := fun k hk => Mp.setBlock_other hk _
  have hM' : Mp.MapAt Tryz.prog 9 (setBlock w2 bm o) bm ((fs ++ [fresh s w.heap.size]).map Fil.kv) := by
    rcases hcase with ⟨_, rfl⟩ | ⟨m1, v0, m2, h1, _⟩
    · simpa [Fil.kv, fresh] using hM
    · have : (Value.string s, v0) ∈ fs.map Fil.kv := by rw [h1]; simp
      obtain ⟨g, hg, e⟩ := List.mem_map.1 this
      simp only [Fil.kv, Prod.mk.injEq, Value.string.injEq] at e
      exact absurd e.1 (hs g hg)
  have hne : ∀ k, k ∈ bd :: fs.flatMap Fil.blocks → k ≠ bm := by
    intro k hk e
    subst e
    simp only [List.nodup_cons, List.mem_cons, not_or] at hap
    rcases List.mem_cons.1 hk with rfl | hk
    · exact hap.1.1 rfl
    · exact hap.2.1 hk
  have hblk : (fresh s w.heap.size).blocks = [w.heap.size] := rfl
  have hout2 : ∀ k, k ∈ bd :: fs.flatMap Fil.blocks → (setBlock w2 bm o).heap[k]? = w2.heap[k]? := fun k hk => hout k (hne k hk)
  refine ⟨⟨(hout bd (hne bd (by simp))).trans D2.disk, hM', ?_, ?_, ?_, ?_, D.small, by simp; omega⟩, ?_, ?_⟩
  · intro f hf
    simp only [List.mem_append, List.mem_singleton] at hf
    rcases hf with hf | rfl
    · exact (D2.files f hf).kept (fun k hk => hout2 k (List.mem_cons_of_mem _ (List.mem_flatMap.2 ⟨f, hf, hk⟩)))
    · exact ⟨(hout _ (by simp only [fresh]; omega)).trans hnew, ⟨rfl, .inl ⟨rfl, rfl⟩⟩, Nat.le_refl _⟩
  · rw [List.flatMap_append, List.flatMap_cons, hblk, List.flatMap_nil, ← List.cons_append, ← List.cons_append]
    refine List.nodup_append.2 ⟨hap, by simp, fun x hx y hy e => ?_⟩
    simp at hy
    have := hlt x hx
    omega
  · intro f hf
    simp only [List.mem_append, List.mem_singleton] at hf
    rcases hf with hf | rfl
    · exact D.good f hf
    · exact hG
  · have := D.roomy
    simp [total, fresh] at this ⊢; omega
  · exact (Touch.ofBelow hb).trans ((touch_setBlock _ _ _).mono (G := DiskB bd bm fs) (fun x hx => by subst hx; simp [DiskB])) (fun x hx => .inl hx)
  · intro k hk
    simp only [DiskB, List.flatMap_append, List.flatMap_cons, hblk, List.flatMap_nil, List.mem_cons, List.mem_append, List.not_mem_nil, or_false] at hk ⊢
    rcases hk with h | h | h | h
    · exact .inl (.inl h)
    · exact .inl (.inr (.inl h))
    · exact .inl (.inr (.inr h))
    · exact .inr (by omega)
set_option maxRecDepth 100000 in
set_option maxHeartbeats 400000 in
theorem append_new {w : World} {bd bm room : Nat} {fs : List Fil} (D : DiskAt w bd bm room fs) (s t : ByteArray) (hG : Good s) (hs : ∀ f ∈ fs, f.name ≠ s) (hlen : fs.length < 256) (h : total fs + t.size ≤ room) :
    Calls Tryz.prog 60 #[.pointer (some ⟨bd, 0, none⟩), .string s, .string t] w fun e w' => e = .returned (.int .i64 0) ∧ ∃ bf v', Evolves w w' bd bm room fs (fs ++ [{ name := s, bf := bf, v := v', b := t.data.toList, sy := 0 }]) := by
  have hsm := D.small
  have HD := Lib.hid D
  have HS := Lib.hid hs
  have HG := Lib.hid hG
  clear D hs hG
  go_enter Tryz.func60, Tryz.ntmps60
  go_wp2_with fail
  refine (find_none HD.out s HG.out HS.out).mono ?_
  rintro e w1 ⟨rfl, hb⟩
  have D1 := HD.out.below hb
  have hc0 := cell_of D1.disk 0
  have hc1 := cell_of D1.disk 1
  have hln := len_map D1.map
  simp only [List.getElem?_toArray, List.getElem?_cons_zero, List.getElem?_cons_succ] at hc0 hc1
  simp only [List.length_map] at hln
  have H1 := Lib.hid D1
  clear D1
  have H1d := Lib.hid (H1.out.below (Below.refl w1.heap.size w1).drew)
  have hbd : bd < w1.heap.size := lt_of_heap H1.out.disk
  have d0 : decide ((256 : Int) ≤ (fs.length : Int)) = false := by simp; omega
  have d1 : decide ((room : Int) - (total fs : Int) < (t.size : Int)) = false := by simp; omega
  have hsub : IntKind.i64.wrap ((room : Int) - (total fs : Int)) = (room : Int) - (total fs : Int) := IntWalk.i64_in _ (by omega)
  go_wp2_with fail
  go_region_with (go_at_call 101; refine (used_yes H1d.out).mono ?_; rintro e w2 ⟨rfl, hb2⟩; have hc2 : w2.cell? ⟨bd, 1, none⟩ = some (.int .i64 room) := (Below.cell (w := w1.drew) hb2 (p := ⟨bd, 1, none⟩) hbd).trans hc1)
  all_goals
    have hbb : Below w.heap.size w w2 := hb.trans ((Below.drew (Below.refl w1.heap.size w1)).trans hb2 |>.mono hb.size)
    have D2 := HD.out.below hbb
    obtain ⟨w3, hrun3, hE3⟩ := created D2 s HG.out HS.out hlen
    have hcf := cell_of (hE3.disk.files (fresh s w2.heap.size) (by simp)).cell 0
    have hc3 : w3.cell? ⟨bd, 0, none⟩ = some (.map (some bm)) := cell_of hE3.disk.disk 0
    have hc0' : w2.cell? ⟨bd, 0, none⟩ = some (.map (some bm)) := cell_of D2.disk 0
    have hbd2 : bd < w2.heap.size := lt_of_heap D2.disk
    obtain ⟨ap, c, v', w4, hv, hrun, hc4, hz4, hE, ⟨a', n', c', hsh⟩⟩ := appended (l1 := fs) (l2 := []) (fresh s w2.heap.size) hE3.disk t (by simp only [total_split]; simp [total, fresh] at h ⊢; omega)
    simp only [fresh, List.length_nil, Value.slice.injEq] at hv
    obtain ⟨rfl, -, rfl⟩ := hv
    simp only [List.getElem?_toArray, List.getElem?_cons_zero, fresh, List.length_nil] at hcf hrun hc4 hz4
    subst hsh
    have HE := Lib.hid ((Evolves.of_below HD.out hbb).trans (hE3.trans hE))
    clear hE D2 hsub d1 hc1 hc2 hE3 hc0 hln
    go_wp2_with (at_builtin; refine wpList_append_run rfl _ _ _ _ rfl _ _ _ _ rfl rfl hrun ?_)
    go_ret
    exact ⟨rfl, w2.heap.size, .slice a' n' c', HE.out⟩
end Go.Proofs.YtcioejacijkbcaaGreatDoor.Vd
