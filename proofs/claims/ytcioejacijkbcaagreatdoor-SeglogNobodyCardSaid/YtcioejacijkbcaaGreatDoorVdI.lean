/- vdisk: Append. -/
import Derived.Test.YtcioejacijkbcaaGreatDoorVdH
import Derived.Deep.RegionWith
import Derived.Maps.OwnSet
import Derived.IntWalk
namespace Go.Proofs.YtcioejacijkbcaaGreatDoor.Vd
open Go.RowKit Go.Maps Go.ChangeMaps Go.WideMaps
set_option linter.unusedVariables false

theorem len_map {w : World} {bm : Nat} {m : List (Value × Value)} (h : Mp.MapAt Tryz.prog 9 w bm m) (ty : TypeId) : (Builtin.len_ #[92] ty #[.map (some bm)]).run Tryz.prog w = .ok (.int .i64 m.length) w := by
  obtain ⟨es, clock, hb, _, rfl, _⟩ := h
  simp [Builtin.len_, run_underlying Tryz.underlying92, MapKept.run_getObj_map hb, Result.andThen, goInt]
/-- Appending a string's bytes: where the new row lies, too. -/
theorem append_str {P : Program} {w : World} (base : Nat) (t u ty e : TypeId) (i : TypeInfo) (ht : P.underlying t = some (.slice e)) (hu : P.underlying u = some .string) (hi : P.info? e = some i) (hz : i.zero = some (.int .u8 0)) (hsize : i.size = 1) (hby : i.bytes = 1)
    (v : Value) (n : Nat) (xs : List Value) (hown : w.ownsRow base e 1 v n xs) (s : ByteArray) (h63 : n + s.size ≤ maxLen) (hbytes : n + s.size ≤ 140737488355328) (hbase : base ≤ w.heap.size) :
    ∃ v' w', (Builtin.append_ #[t, u] ty #[v, .string s]).run P w = .ok v' w' ∧ w'.ownsRow base e 1 v' (n + s.size) (xs ++ Lib.strCells s) ∧ w.grownBy w' v.ownBlock ∧ (∀ k, v'.ownBlock = some k → v.ownBlock = some k ∨ w.heap.size ≤ k) := by
  obtain ⟨v', w', h1, h2, h3, h4⟩ := Lib.run_append_own_string (P := P) w base t u ty e i ht hu hi hz hsize hby v n xs hown s h63 hbytes hbase
  refine ⟨v', w', h1, h2, h3, ?_⟩
  rcases hown.2 with ⟨rfl, rfl⟩ | ⟨g, cap, cur, rfl, hbg, hg, hnc, hcm, hcs, htake⟩
  · obtain ⟨v2, w2, k1, k2, k3, k4⟩ := Lib.run_append_own_string (P := P) w w.heap.size t u ty e i ht hu hi hz hsize hby (.slice none 0 0) 0 xs ⟨hown.1, .inl ⟨rfl, rfl⟩⟩ s h63 hbytes (Nat.le_refl _)
    rw [h1] at k1
    cases k1
    intro k hk
    exact .inr (k2.lt k hk).1
  · by_cases hroom : n + s.size ≤ cap
    · have hr := Lib.run_append_room_string (P := P) w t u ty e i ht hu hi hsize g n cap cur hg s hroom (by omega)
      rw [h1] at hr
      cases hr
      intro k hk
      exact .inl (by simpa [Value.ownBlock] using hk)
    · have holds : ∀ j u, xs[j]? = some u → w.cell? ((⟨g, 0, none⟩ : Addr).add j) = some u := hown.cells (g := g) rfl
      have hr := Lib.run_append_grow_string (P := P) w t u ty e i (.int .u8 0) ht hu hi hz ⟨g, 0, none⟩ n cap xs (by rw [hsize]; exact hown.1) holds s (by omega) (by unfold maxLen at h63; omega) (by rw [hby]; exact growslice_fits (by omega) (by omega))
      rw [h1] at hr
      cases hr
      intro k hk
      simp [Value.ownBlock] at hk
      exact .inr (by omega)
theorem strCells_bv (t : ByteArray) : Lib.strCells t = t.data.toList.map bv := by
  unfold Lib.strCells bv
  simp
theorem info8 : (Tryz.prog.info? 5).map (fun i => (i.zero, i.size, i.bytes)) = some (some (.int .u8 0), 1, 1) := by kernel_rfl
set_option maxRecDepth 100000 in
theorem append_noroom {w : World} {bd bm room : Nat} {fs : List Fil} (D : DiskAt w bd bm room fs) (f : Fil) (hf : f ∈ fs) (s t : ByteArray) (hs : f.name = s) (ht : t.size ≤ 140737488351232) (h : room < total fs + t.size) :
    Calls Tryz.prog 60 #[.pointer (some ⟨bd, 0, none⟩), .string s, .string t] w fun e w' => e = .returned (.int .i64 80) ∧ Below w.heap.size w w' := by
  have hroom := D.roomy
  have hsm := D.small
  have HD := Lib.hid D
  have HS := Lib.hid hs
  clear D hs
  go_enter Tryz.func60, Tryz.ntmps60
  go_wp2_with fail
  refine (find_some HD.out f hf s HS.out).mono ?_
  rintro e w1 ⟨rfl, hb⟩
  have D1 := HD.out.below hb
  have hc1 := cell_of D1.disk 1
  simp only [List.getElem?_toArray, List.getElem?_cons_zero, List.getElem?_cons_succ] at hc1
  have H1 := Lib.hid D1
  clear D1
  have H1d := Lib.hid (H1.out.below (Below.refl w1.heap.size w1).drew)
  have hbd : bd < w1.heap.size := lt_of_heap H1.out.disk
  have d1 : decide ((room : Int) - (total fs : Int) < (t.size : Int)) = true := by simp; omega
  have hsub : IntKind.i64.wrap ((room : Int) - (total fs : Int)) = (room : Int) - (total fs : Int) := IntWalk.i64_in _ (by omega)
  go_wp2_with fail
  go_region_with (go_at_call 101; refine (used_yes H1d.out).mono ?_; rintro e w2 ⟨rfl, hb2⟩; have hc2 : w2.cell? ⟨bd, 1, none⟩ = some (.int .i64 room) := (Below.cell (w := w1.drew) hb2 (p := ⟨bd, 1, none⟩) hbd).trans hc1)
  all_goals
    go_wp2
    go_ret
    exact ⟨rfl, hb.trans ((Below.drew (Below.refl w1.heap.size w1)).trans hb2 |>.mono hb.size)⟩

/-- At the operation: an append whose run is known. -/
theorem wpList_append_run {P : Program} {w : World} {ops : Array Oper} {rest : List Oper} {o : Oper} {a : Act} {Q : Exit → Act → World → Prop} (hgd : o.guard = none) (sl x : Operand) (t u : TypeId)
    (ho : o.op = .call { callee := .builtin .append, args := #[sl, x], argTypes := #[t, u] }) (v xv v' : Value) (w' : World) (hs : a.eval sl = v) (hx : a.eval x = xv)
    (hr : ∀ ty, (Builtin.append_ #[t, u] ty #[v, xv]).run P w = .ok v' w') (h : wpList P ops Q rest (a.put o.dst v') w') : wpList P ops Q (o :: rest) a w := by
  refine wpList_plain hgd fun K hK => ?_
  unfold Oper.wp execOp
  simp only [ho, resolve, invoke, builtin, Sem.run_bind, Sem.run_pure, Result.andThen_ok, List.map_toArray, List.map_cons, List.map_nil, hs, hx, hr]
  exact hK _ _ h
/-- The rest, once there is room: bytes go behind a file's. -/
theorem appended {w : World} {bd bm room : Nat} {l1 l2 : List Fil} (f : Fil) (D : DiskAt w bd bm room (l1 ++ f :: l2)) (t : ByteArray) (h : total (l1 ++ f :: l2) + t.size ≤ room) :
    ∃ ap c v' w3, f.v = .slice ap f.b.length c ∧ (∀ ty, (Builtin.append_ #[60, 9] ty #[.slice ap f.b.length c, .string t]).run Tryz.prog w = .ok v' w3) ∧
      w3.cell? ⟨f.bf, 0, none⟩ = some (.slice ap f.b.length c) ∧ w3.frozen? ⟨f.bf, 0, none⟩ = false ∧ Evolves w (w3.setCell ⟨f.bf, 0, none⟩ v') bd bm room (l1 ++ f :: l2) (l1 ++ { f with v := v', b := f.b ++ t.data.toList } :: l2) ∧ (∃ a n c, v' = .slice a n c) := by
  have F := D.files f (by simp)
  obtain ⟨ap, c, hv, hnil, hcap, hap⟩ := F.slice
  have hsm := D.small
  rw [total_split] at h
  obtain ⟨i0, hi, hz0, hz1, hz2⟩ := info_parts info8
  obtain ⟨v', w3, hrun, hown, hgrow, hat⟩ := append_str (P := Tryz.prog) (w := w) 0 60 9 0 5 i0 Tryz.underlying60 Tryz.underlying9 hi hz0 hz1 hz2 f.v f.b.length _ F.own t (by unfold maxLen; omega) (by omega) (Nat.zero_le _)
  have hne : ∀ k, f.v.ownBlock = some k → k ≠ f.bf := fun k hk => own_ne D hk
  have hb : w3.heap[f.bf]? = w.heap[f.bf]? := hgrow.block _ (lt_of_heap F.cell) (fun e => hne _ e.symm rfl)
  have hcell := hb.trans F.cell
  have hsh : ∃ a n c, v' = .slice a n c := by
    rcases hown.2 with ⟨h1, _⟩ | ⟨g, cap, cur, h1, _⟩
    · exact ⟨_, _, _, h1⟩
    · exact ⟨_, _, _, h1⟩
  refine ⟨ap, c, v', w3, hv, fun ty => by rw [← hv]; exact hrun, ?_, frozen_of hcell 0, ?_, hsh⟩
  · rw [cell_of hcell, hv]; rfl
  · have hT1 : Touch (· ∈ f.blocks) w w3 := (Touch.grown hgrow).mono (fun x hx => by simp [Fil.blocks, hx])
    refine Evolves.upd D (hT1.trans (Touch.set (F := (· ∈ f.blocks)) _ _ _ (by simp [Fil.blocks])) (fun x hx => .inl hx)) ⟨?_, ?_, ?_⟩ rfl rfl hat ?_
    · rw [setCell_block hcell]; simp
    · rw [strCells_bv, ← List.map_append] at hown
      have hl : (f.b ++ t.data.toList).length = f.b.length + t.size := by simp
      rw [hl]
      refine ownsRow_at hown (fun k hk => Below.heap_setCell _ _ _ _ ?_)
      rcases hat k hk with h1 | h1
      · exact hne k h1
      · have := lt_of_heap F.cell
        intro e; simp only at e; omega
    · have := F.sy; simp; omega
    · rw [total_split]; simp; omega
set_option maxRecDepth 100000 in
theorem append_some {w : World} {bd bm room : Nat} {l1 l2 : List Fil} (f : Fil) (D : DiskAt w bd bm room (l1 ++ f :: l2)) (s t : ByteArray) (hs : f.name = s) (h : total (l1 ++ f :: l2) + t.size ≤ room) :
    Calls Tryz.prog 60 #[.pointer (some ⟨bd, 0, none⟩), .string s, .string t] w fun e w' => e = .returned (.int .i64 0) ∧ ∃ v', Evolves w w' bd bm room (l1 ++ f :: l2) (l1 ++ { f with v := v', b := f.b ++ t.data.toList } :: l2) := by
  have hsm := D.small
  generalize hfs : l1 ++ f :: l2 = fs at D h ⊢
  have hff : f ∈ fs := by rw [← hfs]; simp
  have HFS := Lib.hid hfs
  have HD := Lib.hid D
  have HS := Lib.hid hs
  clear D hs hfs
  go_enter Tryz.func60, Tryz.ntmps60
  go_wp2_with fail
  refine (find_some HD.out f hff s HS.out).mono ?_
  rintro e w1 ⟨rfl, hb⟩
  have D1 := HD.out.below hb
  have hc1 := cell_of D1.disk 1
  simp only [List.getElem?_toArray, List.getElem?_cons_zero, List.getElem?_cons_succ] at hc1
  have H1 := Lib.hid D1
  clear D1
  have H1d := Lib.hid (H1.out.below (Below.refl w1.heap.size w1).drew)
  have hbd : bd < w1.heap.size := lt_of_heap H1.out.disk
  have d1 : decide ((room : Int) - (total fs : Int) < (t.size : Int)) = false := by simp; omega
  have hsub : IntKind.i64.wrap ((room : Int) - (total fs : Int)) = (room : Int) - (total fs : Int) := IntWalk.i64_in _ (by omega)
  go_wp2_with fail
  go_region_with (go_at_call 101; refine (used_yes H1d.out).mono ?_; rintro e w2 ⟨rfl, hb2⟩; have hc2 : w2.cell? ⟨bd, 1, none⟩ = some (.int .i64 room) := (Below.cell (w := w1.drew) hb2 (p := ⟨bd, 1, none⟩) hbd).trans hc1)
  all_goals
    have hbb : Below w.heap.size w w2 := hb.trans ((Below.drew (Below.refl w1.heap.size w1)).trans hb2 |>.mono hb.size)
    have D2 := HD.out.below hbb
    have hcf := cell_of (D2.files f hff).cell 0
    rw [← HFS.out] at D2
    obtain ⟨ap, c, v', w3, hv, hrun, hc3, hz3, hE, ⟨a', n', c', hsh⟩⟩ := appended f D2 t (by rw [HFS.out]; exact h)
    simp only [List.getElem?_toArray, List.getElem?_cons_zero, hv] at hcf
    subst hsh
    have HE := Lib.hid hE
    clear hv hE D2 hsub d1 hc1 hc2
    go_wp2_with (at_builtin; refine wpList_append_run rfl _ _ _ _ rfl _ _ _ _ rfl rfl hrun ?_)
    go_ret
    exact ⟨rfl, _, by rw [← HFS.out]; exact (Evolves.of_below (by rw [HFS.out]; exact HD.out) hbb).trans HE.out⟩
end Go.Proofs.YtcioejacijkbcaaGreatDoor.Vd
