/- sums: CRC-32C. -/
import Derived.Test.YtcioejacijkbcaaGreatDoorProg
import Derived.Below
import Derived.WalkSpells
import Derived.Deep.QuietTactic
import Derived.Test.YtcioejacijkbcaaGreatDoorOpens
import Derived.Lib.Hide
import Derived.WalkKit
import Derived.RowKit3
import Derived.Tactics
import Derived.OwnWalk
import Derived.RegionTactic
import Derived.BigQuiet
import Derived.Laws.BitsLemmas
import Derived.Deep.WholeRow
import Derived.KernelRfl
namespace Go.Proofs.YtcioejacijkbcaaGreatDoor.Su
open Go.RowKit Go.Maps Go.ChangeMaps Go.WideMaps
set_option linter.unusedVariables false
/-- one bit of a CRC -/
def bit1 (c : Nat) : Nat := (c / 2) ^^^ (2197175160 * (c % 2))
def bitn : Nat → Nat → Nat
  | 0, c => c
  | n + 1, c => bit1 (bitn n c)
/-- a byte's share -/
def tab (k : Nat) : Nat := bitn 8 k
theorem bit1_lt (c : Nat) (h : c < 2 ^ 32) : bit1 c < 2 ^ 32 := by
  unfold bit1
  apply Nat.xor_lt_two_pow
  · omega
  · have : c % 2 < 2 := Nat.mod_lt _ (by decide)
    omega
theorem bitn_lt (n c : Nat) (h : c < 2 ^ 32) : bitn n c < 2 ^ 32 := by
  induction n with
  | zero => exact h
  | succ n ih => exact bit1_lt _ ih
/-- the cells behind k rounds -/
@[irreducible] def tcells (k : Nat) : Array Value := Array.ofFn (n := 256) fun i => if i.val < k then .int .u32 (tab i.val) else .int .u32 0
theorem tcells_zero : tcells 0 = Tryz.zeroCells202 := by
  unfold tcells
  kernel_rfl
theorem tcells_size (k : Nat) : (tcells k).size = 256 := by unfold tcells; simp
theorem tcells_get (k i : Nat) (h : i < 256) : (tcells k)[i]? = some (if i < k then .int .u32 (tab i) else .int .u32 0) := by unfold tcells; simp [h]
theorem tcells_set (k : Nat) (h : k < 256) : (tcells k).setIfInBounds k (.int .u32 (tab k)) = tcells (k + 1) := by
  apply Array.ext_getElem?
  intro i
  rw [Array.getElem?_setIfInBounds, tcells_size]
  rcases Nat.lt_or_ge i 256 with hi | hi
  · rw [tcells_get _ _ hi, tcells_get _ _ hi]
    by_cases e : k = i
    · subst e; simp [h]
    · have : (i < k) = (i < k + 1) := by simp; omega
      simp [e, this]
  · rw [Array.getElem?_eq_none (by rw [tcells_size]; exact hi), Array.getElem?_eq_none (by rw [tcells_size]; exact hi)]
    simp; omega
theorem tcells_all (k : Nat) : (tcells k).all (·.oneCell') = true := by
  rw [Array.all_eq_true]
  intro i hi
  rw [tcells_size] at hi
  have := tcells_get k i hi
  rw [Array.getElem?_eq_getElem (by rw [tcells_size]; exact hi)] at this
  injection this with this
  rw [this]
  split <;> rfl
theorem infoT : (Tryz.prog.info? 202).map (·.size) = some 256 := by kernel_rfl
/-- the bit operations on whole numbers of 32 bits -/
theorem bits_xor (k : IntKind) (j : Nat) (hj : j ≤ k.bits) (hk : ∀ n : Int, 0 ≤ n → n < 2 ^ j → k.wrap n = n) (a b : Nat) (ha : a < 2 ^ j) (hb : b < 2 ^ j) :
    bits .xor k a b = ((a ^^^ b : Nat) : Int) := by
  have hp : 2 ^ j ≤ 2 ^ k.bits := Nat.pow_le_pow_right (by decide) hj
  have ha' : a % 2 ^ k.bits = a := Nat.mod_eq_of_lt (Nat.lt_of_lt_of_le ha hp)
  have hb' : b % 2 ^ k.bits = b := Nat.mod_eq_of_lt (Nat.lt_of_lt_of_le hb hp)
  have cast : ∀ n : Nat, n < 2 ^ j → ((n : Nat) : Int) < 2 ^ j := fun n h => by exact_mod_cast h
  simp only [bits, BitVec.ofInt_natCast, BitVec.toNat_xor, BitVec.toNat_ofNat, ha', hb']
  exact hk _ (Int.natCast_nonneg _) (cast _ (Nat.xor_lt_two_pow ha hb))
theorem wraps_u32 (n : Int) (h₀ : 0 ≤ n) (h₁ : n < 2 ^ 32) : IntKind.u32.wrap n = n := by rw [IntKind.wrap_u32]; omega
theorem xor32 (a b : Nat) (ha : a < 2 ^ 32) (hb : b < 2 ^ 32) : bits .xor .u32 a b = ((a ^^^ b : Nat) : Int) := bits_xor .u32 32 (by decide) wraps_u32 a b ha hb
theorem and1 (a : Nat) (ha : a < 2 ^ 32) : bits .and .u32 a 1 = ((a % 2 : Nat) : Int) := by
  have h := (bits_nat .u32 32 (by decide) wraps_u32 a 1 ha (by decide)).1
  rw [Nat.and_one_is_mod] at h
  exact h
theorem bit1_word (a : Nat) (ha : a < 2 ^ 32) : bits .xor .u32 ((a : Int) / 2) (2197175160 * bits .and .u32 a 1 % 4294967296) = (bit1 a : Nat) := by
  rw [and1 a ha]
  have h : (2197175160 * ((a % 2 : Nat) : Int) % 4294967296) = ((2197175160 * (a % 2) : Nat) : Int) := by omega
  have h2 : ((a : Int) / 2) = ((a / 2 : Nat) : Int) := by omega
  rw [h, h2, xor32 _ _ (by omega) (by omega)]
  rfl
set_option maxRecDepth 100000 in
set_option maxHeartbeats 4000000 in
theorem table (W : World) : Calls Tryz.prog 167 #[] W fun e w' => e = .returned (.agg (tcells 256)) ∧ Below W.heap.size W w' := by
  go_enter Tryz.func167, Tryz.ntmps167
  go_wp2_with fail
  go_loopw [3] (fun i w' => ∃ k : Nat, k ≤ 256 ∧ i = .int .i64 k ∧ w' = W.alloc (.cells (tcells k) 202)) (fun i _ => 256 - (intOf i).toNat)
  case atStart => exact ⟨0, by omega, rfl, by rw [tcells_zero]⟩
  case round =>
    obtain ⟨k, hk, rfl, rfl⟩ := hrel
    by_cases hlt : k < 256
    · go_wp2_with fail
      go_loopw [2, 8] (fun c j w' => ∃ jj : Nat, jj ≤ 8 ∧ j = .int .i64 jj ∧ c = .int .u32 (bitn jj k) ∧ w' = W.alloc (.cells (tcells k) 202)) (fun _ j _ => 8 - (intOf j).toNat)
      case atStart => exact ⟨0, by omega, rfl, rfl, rfl⟩
      case round =>
        obtain ⟨jj, hj, rfl, rfl, rfl⟩ := hrel
        by_cases hlj : jj < 8
        · have hw := bit1_word (bitn jj k) (bitn_lt jj k (by omega))
          go_wp2_with fail
          go_roundw
          case rel => exact ⟨jj + 1, by omega, by go_num, rfl, trivial⟩
          case measure => simp [intOf]; omega
        · obtain rfl : jj = 8 := by omega
          have hg : (tcells k)[k]? = some (.int .u32 0) := by rw [tcells_get k k hlt]; simp
          have hs : (tcells k).setIfInBounds k (.int .u32 (bitn 8 k)) = tcells (k + 1) := tcells_set k hlt
          go_wp2_with fail
          go_roundw
          case rel => exact ⟨k + 1, by omega, by go_num, rfl⟩
          case measure => simp [intOf]; omega
    · obtain rfl : k = 256 := by omega
      have hi : (Tryz.prog.info? 202).map (·.size) = some (tcells 256).size := by rw [tcells_size]; exact infoT
      have h4 := run_storeCells_new (P := Tryz.prog) W 202 (tcells 256) (tcells 256) hi rfl (tcells_all 256)
      have hsz := tcells_size 256
      go_wp2
      refine wp_load_row _ _ rfl W.heap.size rfl _ _ _ _ (heap_alloc_last _ _) Tryz.underlying202 rfl hi ?_
      go_wp2
      refine bodyPost_ret (results_cell_row rfl _ _ W.heap.size _ _ _ _ rfl (heap_alloc_last _ _) Tryz.underlying202 rfl hi) rfl ?_
      exact ⟨rfl, (Below.refl _ _).alloc (Nat.le_refl _) _⟩
end Go.Proofs.YtcioejacijkbcaaGreatDoor.Su
/- sums: CRC-32C, over bytes. -/
namespace Go.Proofs.YtcioejacijkbcaaGreatDoor.Su
open Go.RowKit Go.Maps Go.ChangeMaps Go.WideMaps
set_option linter.unusedVariables false
def crcStep (c : Nat) (b : UInt8) : Nat := tab ((c % 256) ^^^ b.toNat) ^^^ (c / 256)
def crcGo (c : Nat) (l : List UInt8) : Nat := l.foldl crcStep c
/-- CRC-32C -/
def crc (l : List UInt8) : Nat := 4294967295 ^^^ crcGo 4294967295 l
theorem tab_lt (k : Nat) (h : k < 256) : tab k < 2 ^ 32 := bitn_lt 8 k (by omega)
theorem xor_byte (c : Nat) (b : UInt8) : (c % 256) ^^^ b.toNat < 256 := Nat.xor_lt_two_pow (n := 8) (by omega) (UInt8.toNat_lt b)
theorem crcStep_lt (c : Nat) (b : UInt8) (h : c < 2 ^ 32) : crcStep c b < 2 ^ 32 :=
  Nat.xor_lt_two_pow (tab_lt _ (xor_byte c b)) (by omega)
theorem crcGo_lt (l : List UInt8) (c : Nat) (h : c < 2 ^ 32) : crcGo c l < 2 ^ 32 := by
  induction l generalizing c with
  | nil => exact h
  | cons b l ih => exact ih _ (crcStep_lt c b h)
theorem crcGo_take (c : Nat) (l : List UInt8) (k : Nat) (h : k < l.length) : crcGo c (l.take (k + 1)) = crcStep (crcGo c (l.take k)) l[k] := by
  unfold crcGo
  rw [List.take_succ_eq_append_getElem h, List.foldl_append]
  rfl
theorem crc_lt (l : List UInt8) : crc l < 2 ^ 32 := Nat.xor_lt_two_pow (by decide) (crcGo_lt l _ (by decide))
set_option maxRecDepth 100000 in
set_option maxHeartbeats 4000000 in
theorem crc_calls (W : World) (s : ByteArray) (hsz0 : s.size ≤ 1099511627776) : Calls Tryz.prog 117 #[.int .u32 0, .string s] W fun e w' => e = .returned (.int .u32 (crc s.data.toList)) ∧ Below W.heap.size W w' := by
  have hsz1 : (s.size : Int) ≤ 1099511627776 := by omega
  go_enter Tryz.func117, Tryz.ntmps117
  go_wp2_with fail
  refine (table _).mono ?_
  rintro e w1 ⟨rfl, hb1⟩
  have HB1 := Lib.hid hb1
  clear hb1
  have hsz := tcells_size 256
  have hi : (Tryz.prog.info? 202).map (·.size) = some (tcells 256).size := by rw [tcells_size]; exact infoT
  have h4 := run_storeCells_new (P := Tryz.prog) w1 202 Tryz.zeroCells202 (tcells 256) hi (by rw [← tcells_zero, tcells_size, tcells_size]) (tcells_all 256)
  go_wp2_with fail
  have HB2 := Lib.hid (HB1.out.alloc HB1.out.size (.cells (tcells 256) 202))
  clear HB1 h4 hi hsz
  have hbk : (w1.alloc (.cells (tcells 256) 202)).heap[w1.heap.size]? = some (.cells (tcells 256) 202) := heap_alloc_last _ _
  have HBK := Lib.hid hbk
  clear hbk
  generalize w1.alloc (.cells (tcells 256) 202) = w2 at *
  go_loopw [0, 12] (fun c i w' => ∃ k : Nat, k ≤ s.size ∧ i = .int .i64 k ∧ c = .int .u32 (crcGo 4294967295 (s.data.toList.take k)) ∧ w' = w2) (fun _ i _ => s.size - (intOf i).toNat)
  case atStart => exact ⟨0, by omega, rfl, rfl, rfl⟩
  case round =>
    obtain ⟨k, hk, rfl, rfl, rfl⟩ := hrel
    by_cases hlt : k < s.size
    · have hlen : k < s.data.toList.length := by rw [Array.length_toList]; exact hlt
      have hx := crcGo_take 4294967295 s.data.toList k hlen
      have hc := crcGo_lt (s.data.toList.take k) 4294967295 (by decide)
      generalize crcGo 4294967295 (s.data.toList.take k) = c at hx hc
      have hcb := xor_byte c s.data.toList[k]
      have hxb : bits .xor .u8 ((c : Int) % 256) ((s[k]'hlt).toNat : Nat) = (((c % 256) ^^^ s.data.toList[k].toNat : Nat) : Int) := by
        have := bits_xor .u8 8 (by decide) wraps_u8 (c % 256) (s[k]'hlt).toNat (by omega) (UInt8.toNat_lt _)
        rw [show ((c : Int) % 256) = ((c % 256 : Nat) : Int) from by omega]
        exact this
      have hcell : wr.cell? ⟨w1.heap.size, (c % 256) ^^^ s.data.toList[k].toNat, none⟩ = some (.int .u32 (tab ((c % 256) ^^^ s.data.toList[k].toNat))) := by
        rw [cell_of_row _ _ _ _ _ _ HBK.out, tcells_get _ _ hcb, if_pos hcb]
      have ht := tab_lt _ hcb
      have hs : crcStep c s.data.toList[k] = tab ((c % 256) ^^^ s.data.toList[k].toNat) ^^^ (c / 256) := rfl
      generalize hjj : (c % 256) ^^^ s.data.toList[k].toNat = j at *
      have hxc : bits .xor .u32 (tab j) ((c : Int) / 256) = (crcGo 4294967295 (s.data.toList.take (k + 1)) : Nat) := by
        rw [hx, hs, show ((c : Int) / 256) = ((c / 256 : Nat) : Int) from by omega]
        exact xor32 _ _ ht (by omega)
      clear hx hs hjj
      go_wp2_with fail
      go_roundw
      case rel => exact ⟨k + 1, by omega, by go_num, rfl, trivial⟩
      case measure => simp [intOf]; omega
    · obtain rfl : k = s.size := by omega
      go_wp2_with fail
      go_ret
      refine ⟨?_, HB2.out⟩
      have e : s.data.toList.take s.size = s.data.toList := List.take_of_length_le (by rw [Array.length_toList]; exact Nat.le_refl _)
      rw [e]
      have := crcGo_lt s.data.toList 4294967295 (by decide)
      have hx : bits .xor .u32 IntKind.u32.max (crcGo 4294967295 s.data.toList) = (crc s.data.toList : Nat) := xor32 4294967295 _ (by decide) this
      show Ending.returned (.int .u32 (bits .xor .u32 IntKind.u32.max (crcGo 4294967295 s.data.toList))) = _
      rw [hx]
set_option maxRecDepth 100000 in
theorem Crc_calls (W : World) (s : ByteArray) (hsz0 : s.size ≤ 1099511627776) : Calls Tryz.prog 79 #[.string s] W fun e w' => e = .returned (.int .i64 (crc s.data.toList)) ∧ Below W.heap.size W w' := by
  go_enter Tryz.func79, Tryz.ntmps79
  go_wp2_with fail
  refine (crc_calls _ s hsz0).mono ?_
  rintro e w1 ⟨rfl, hb1⟩
  have hlt := crc_lt s.data.toList
  go_wp2
  go_ret
  refine ⟨?_, hb1⟩
  go_num
end Go.Proofs.YtcioejacijkbcaaGreatDoor.Su
