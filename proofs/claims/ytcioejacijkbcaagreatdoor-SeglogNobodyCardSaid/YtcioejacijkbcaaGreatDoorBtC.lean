/- bits: PutVar. Bytes that a call appends for itself. -/
import Derived.Test.YtcioejacijkbcaaGreatDoorBtA
import Derived.ArgAppend
import Derived.Maps.AppendAt
namespace Go.Proofs.YtcioejacijkbcaaGreatDoor.Bt
open Go.RowKit Go.Maps Go.ChangeMaps Go.WideMaps Go.Proofs.YtcioejacijkbcaaGreatDoor.Su
set_option linter.unusedVariables false
/-- a byte as a cell -/
def bv (b : UInt8) : Value := .int .u8 b.toNat
/-- an own slice of bytes -/
def Bytes (w : World) (base : Nat) (v : Value) (l : List UInt8) : Prop := w.ownsRow base 5 1 v l.length (l.map bv)
theorem Bytes.nil (w : World) (base : Nat) : Bytes w base (.slice none 0 0) [] := World.ownsRow_nil _ _ _ _
theorem Bytes.at {w w' : World} {base : Nat} {v : Value} {l : List UInt8} (h : Bytes w base v l) (hb : ∀ k, v.ownBlock = some k → w'.heap[k]? = w.heap[k]?) : Bytes w' base v l := by
  obtain ⟨h1, h2⟩ := h
  refine ⟨h1, ?_⟩
  rcases h2 with h2 | ⟨g, cap, cur, rfl, hg, hh, h5⟩
  · exact .inl h2
  · exact .inr ⟨g, cap, cur, rfl, hg, (hb g rfl).trans hh, h5⟩
theorem Bytes.alloc {w : World} {base : Nat} {v : Value} {l : List UInt8} (h : Bytes w base v l) (o : Obj) : Bytes (w.alloc o) base v l := World.ownsRow.alloc h o
theorem conv_none (w : World) (a : Option Addr) (c : Nat) : (convert 60 9 (.slice a 0 c)).run Tryz.prog w = .ok (.string (str [])) w := by
  rcases a with _ | a
  · exact run_convert_bytes_nil (P := Tryz.prog) w _ _ Tryz.underlying60 Tryz.underlying5 0 c _ Tryz.underlying9
  · rw [run_convert_bytes_string w _ _ _ _ _ _ Tryz.underlying60 Tryz.underlying5 Tryz.underlying9, run_bytesToString w a 0 c [] (by simp [loadCells, loadCellsFrom])]; rfl
theorem str_nums (l : List UInt8) : strOfNums (l.map (fun x => (x.toNat : Int))) = str l := by
  unfold strOfNums str
  congr 1
  rw [List.map_map]
  congr 1
  conv => rhs; rw [← List.map_id l]
  apply List.map_congr_left
  intro x _
  simp
/-- string(b) -/
theorem Bytes.conv {w : World} {base : Nat} {v : Value} {l : List UInt8} (h : Bytes w base v l) : (convert 60 9 v).run Tryz.prog w = .ok (.string (str l)) w := by
  obtain ⟨h1, h2⟩ := h
  rcases h2 with ⟨rfl, h0⟩ | ⟨g, cap, cur, rfl, hg, hb, hc, hm, hz, ht⟩
  · obtain rfl := List.length_eq_zero_iff.1 h0
    exact conv_none w none 0
  · rw [run_convert_bytes_arg (P := Tryz.prog) w _ _ Tryz.underlying60 Tryz.underlying5 g 0 l.length cap (l.map (fun x => (x.toNat : Int))) (by simp) ?_ _ Tryz.underlying9]
    · rw [str_nums]
    · intro j hj
      have hj' : j < l.length := by simpa using hj
      rw [cell_of_row _ _ _ _ _ _ hb, Nat.zero_add]
      have : (cur.toList.take (l.length * 1))[j]? = (l.map bv)[j]? := by rw [ht]
      rw [List.getElem?_take, if_pos (by omega), Array.getElem?_toList] at this
      rw [this, List.getElem?_map, List.getElem?_eq_getElem hj']
      simp [bv, List.getD_eq_getElem?_getD, hj']
/-- one byte more -/
theorem wpList_append_byte {w : World} {ops : Array Oper} {rest : List Oper} {o : Oper} {a : Act} {Q : Exit → Act → World → Prop} (hgd : o.guard = none) (s x : Operand)
    (ho : o.op = .call { callee := .builtin .append, args := #[s, x], argTypes := #[60, 60] })
    (base : Nat) (v : Value) (l : List UInt8) (hs : a.eval s = v) (hown : Bytes w base v l)
    (ad : Addr) (b : UInt8) (hx : a.eval x = .slice (some ad) 1 1) (hc : w.cell? ad = some (bv b)) (hsz : l.length ≤ 140737488351232) (hbase : base ≤ w.heap.size)
    (h : ∀ v' w', Bytes w' base v' (l ++ [b]) → w.grownBy w' v.ownBlock → (v'.ownBlock = v.ownBlock ∨ v'.ownBlock = some w.heap.size) → wpList Tryz.prog ops Q rest (a.put o.dst v') w') :
    wpList Tryz.prog ops Q (o :: rest) a w := by
  obtain ⟨i0, hi, hz0, hz1, hz2⟩ := info_parts info8
  refine wpList_append_own_at _ hgd s x 60 ho base 5 i0 (.int .u8 0) 1 1 Tryz.underlying60 hi hz0 hz1 hz2 rfl (by decide) v l.length (l.map bv) hs hown ad 1 1 [bv b] hx rfl ?_ ?_ (by unfold maxLen; omega) (by omega) hbase ?_
  · intro j u hu
    cases j with
    | zero => simp at hu; subst hu; exact hc
    | succ j => simp at hu
  · intro u hu; simp at hu; subst hu; rfl
  · intro v' w' h1 h2 _ h4
    exact h v' w' (by simpa [Bytes] using h1) h2 h4
/-- a number as seven bits a byte, the lowest first -/
def vnum (n : Nat) : List UInt8 := if n < 128 then [UInt8.ofNat n] else UInt8.ofNat (n % 128 + 128) :: vnum (n / 128)
termination_by n
decreasing_by omega
theorem vnum_small (n : Nat) (h : n < 128) : vnum n = [UInt8.ofNat n] := by rw [vnum, if_pos h]
theorem vnum_big (n : Nat) (h : ¬ n < 128) : vnum n = UInt8.ofNat (n % 128 + 128) :: vnum (n / 128) := by rw [vnum, if_neg h]
set_option maxRecDepth 100000 in
theorem or128 : ∀ a : Nat, a < 256 → a ||| 128 = a % 128 + 128 := by decide
theorem bits_or128 (u : Nat) : bits .or .u8 ((u : Int) % 256) 128 = ((u % 128 + 128 : Nat) : Int) := by
  have h := (bits_nat .u8 8 (by decide) wraps_u8 (u % 256) 128 (by omega) (by decide)).2
  rw [or128 _ (by omega)] at h
  rw [show ((u : Int) % 256) = ((u % 256 : Nat) : Int) from by omega]
  have e : u % 256 % 128 = u % 128 := by omega
  rw [e] at h
  exact h
theorem le_alloc {n : Nat} {w : World} (h : n ≤ w.heap.size) (o : Obj) : n ≤ (w.alloc o).heap.size := by
  have : (w.alloc o).heap.size = w.heap.size + 1 := by show (w.heap.push o).size = _; simp
  omega
theorem few_bytes {m n : Nat} (h : 128 ^ m ≤ n) (hn : n < 2 ^ 63) : m ≤ 9 := by
  rcases Nat.lt_or_ge 9 m with h1 | h1
  · have : 128 ^ 9 ≤ 128 ^ m := Nat.pow_le_pow_right (by decide) (by omega)
    omega
  · exact h1
theorem pow_next (U m n : Nat) (h : U * 128 ^ m ≤ n) : U / 128 * 128 ^ (m + 1) ≤ n := by
  rw [Nat.pow_succ, Nat.mul_comm (128 ^ m) 128, ← Nat.mul_assoc]
  exact Nat.le_trans (Nat.mul_le_mul_right _ (Nat.div_mul_le_self U 128)) h
set_option maxRecDepth 100000 in
set_option maxHeartbeats 4000000 in
theorem putVar (W : World) (n : Nat) (hn : n < 2 ^ 63) :
    Calls Tryz.prog 236 #[.int .i64 n] W fun e w' => e = .returned (.tuple #[.string (str (vnum n)), .int .i64 0]) ∧ Below W.heap.size W w' := by
  obtain ⟨N, hN⟩ : ∃ N : Int, N = n := ⟨_, rfl⟩
  have hw : IntKind.u64.wrap N = N := wraps_u64 N (by omega) (by omega)
  have h0 : 0 ≤ N := by omega
  rw [← hN]
  have HN := Lib.hid hN
  have HL := Lib.hid hn
  clear hN hn
  go_enter Tryz.func236, Tryz.ntmps236
  go_wp2_with fail
  go_loopw [4, 5] (fun v u w' => ∃ (U : Nat) (l : List UInt8), u = .int .u64 U ∧ U ≤ n ∧ l ++ vnum U = vnum n ∧ (l = [] ∨ 1 ≤ U) ∧ U * 128 ^ l.length ≤ n ∧ Bytes w' W.heap.size v l ∧ Below W.heap.size W w') (fun _ u _ => (intOf u).toNat)
  case atStart => exact ⟨n, [], by rw [HN.out], by omega, rfl, .inl rfl, by simp, Bytes.nil _ _, Below.refl _ _⟩
  case round =>
    obtain ⟨U, l, rfl, hU, hl, hone, hpow, hB, hb⟩ := hrel
    have hln : l.length ≤ 9 := by
      rcases hone with rfl | h1
      · simp
      · exact few_bytes (Nat.le_trans (Nat.le_mul_of_pos_left _ h1) hpow) HL.out
    have HPW := Lib.hid hpow
    clear hone hpow
    have hsz := hb.size
    have h63 := HL.out
    by_cases hlt : U < 128
    · have hbv : bv (UInt8.ofNat U) = .int .u8 U := by unfold bv; rw [UInt8.toNat_ofNat']; congr 1; omega
      have hcl : (wr.alloc (.cells #[.int .u8 U] 5)).cell? ⟨wr.heap.size, 0, none⟩ = some (bv (UInt8.ofNat U)) := by rw [hbv]; exact (cell_of_row _ _ 0 _ _ _ (heap_alloc_last _ _)).trans rfl
      have hlt' : (U : Int) < 128 := by omega
      have HB := Lib.hid hB
      have HC := Lib.hid hcl
      have HE := Lib.hid hl
      have HLN := Lib.hid hln
      have HSZ := Lib.hid hsz
      have HU := Lib.hid hlt
      clear hB hcl hl hln hsz h63 hU hlt hbv
      go_wp2_with (at_builtin; refine wpList_append_byte rfl _ _ rfl W.heap.size _ l rfl (HB.out.alloc _) _ (UInt8.ofNat U) rfl HC.out (by have := HLN.out; omega) (le_alloc HSZ.out _) ?_; intro v' w' hB2 hg2 hv2)
      have hcv := hB2.conv
      rw [vnum_small U HU.out] at HE
      rw [HE.out] at hcv
      clear hB2
      go_wp2
      rw [hcv]
      go_wp2
      go_ret2
      exact ⟨rfl, (hb.alloc HSZ.out _).grown hg2 (le_alloc HSZ.out _) (fun k hk => (HB.out.lt k hk).1)⟩
    · have hbv : bv (UInt8.ofNat (U % 128 + 128)) = .int .u8 ((U % 128 + 128 : Nat) : Int) := by unfold bv; rw [UInt8.toNat_ofNat']; congr 1; omega
      have hor := bits_or128 U
      have hcl : (wr.alloc (.cells #[.int .u8 ((U % 128 + 128 : Nat) : Int)] 5)).cell? ⟨wr.heap.size, 0, none⟩ = some (bv (UInt8.ofNat (U % 128 + 128))) := by rw [hbv]; exact (cell_of_row _ _ 0 _ _ _ (heap_alloc_last _ _)).trans rfl
      have hlt' : ¬ (U : Int) < 128 := by omega
      have HB := Lib.hid hB
      have HC := Lib.hid hcl
      have HE := Lib.hid hl
      have HLN := Lib.hid hln
      have HSZ := Lib.hid hsz
      have HU := Lib.hid hlt
      have HUN := Lib.hid hU
      clear hB hcl hl hln hsz h63 hU hlt hbv
      generalize hQ : ((U % 128 + 128 : Nat) : Int) = Q at hor HC
      clear hQ
      go_wp2_with (at_builtin; refine wpList_append_byte rfl _ _ rfl W.heap.size _ l rfl (HB.out.alloc _) _ (UInt8.ofNat (U % 128 + 128)) rfl HC.out (by have := HLN.out; omega) (le_alloc HSZ.out _) ?_; intro v' w' hB2 hg2 hv2)
      have HB2 := Lib.hid hB2
      have HG2 := Lib.hid hg2
      clear hB2 hg2 hv2
      go_wp2
      go_roundw
      case rel =>
        refine ⟨U / 128, l ++ [UInt8.ofNat (U % 128 + 128)], by go_num, by have := HUN.out; omega, ?_, .inr (by have := HU.out; omega), ?_, HB2.out, (hb.alloc HSZ.out _).grown HG2.out (le_alloc HSZ.out _) (fun k hk => (HB.out.lt k hk).1)⟩
        · rw [List.append_assoc, List.singleton_append, ← vnum_big U HU.out]; exact HE.out
        · rw [List.length_append, List.length_singleton]; exact pow_next U l.length n HPW.out
      case measure => simp [intOf]; have := HU.out; omega
end Go.Proofs.YtcioejacijkbcaaGreatDoor.Bt
