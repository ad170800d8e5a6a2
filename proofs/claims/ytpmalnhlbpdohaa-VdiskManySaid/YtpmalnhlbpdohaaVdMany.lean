/- VdiskMany returns true, whatever its argument is. No condition. -/
import Derived.Test.YtpmalnhlbpdohaaVdN
namespace Go.Proofs.Ytpmalnhlbpdohaa.VdMany
open Go.RowKit Go.Maps Go.ChangeMaps Go.WideMaps Go.Proofs.Ytpmalnhlbpdohaa.Vd
set_option linter.unusedVariables false
/-- the name of a number -/
def nmi (i : Nat) : ByteArray := str [102, UInt8.ofNat (97 + i / 16), UInt8.ofNat (97 + i % 16)]
theorem nmi_good (i : Nat) (h : i < 256) : Vd.Good (nmi i) := by
  refine good_str _ (by simp) (by simp) ?_
  intro x hx
  simp only [List.mem_cons, List.not_mem_nil, or_false] at hx
  rcases hx with rfl | rfl | rfl
  · decide
  · rw [UInt8.toNat_ofNat']; omega
  · rw [UInt8.toNat_ofNat']; omega
theorem nmi_inj {i j : Nat} (hi : i < 256) (hj : j < 256) (h : nmi i = nmi j) : i = j := by
  have h' : (nmi i).data.toList = (nmi j).data.toList := by rw [h]
  have h2 : [(102 : UInt8), UInt8.ofNat (97 + i / 16), UInt8.ofNat (97 + i % 16)] = [102, UInt8.ofNat (97 + j / 16), UInt8.ofNat (97 + j % 16)] := by simpa [nmi, str] using h'
  simp only [List.cons.injEq, and_true, true_and] at h2
  have a := congrArg UInt8.toNat h2.1
  have b := congrArg UInt8.toNat h2.2
  rw [UInt8.toNat_ofNat', UInt8.toNat_ofNat'] at a b
  omega
theorem and255 (n : Int) : bits .and .i64 n 255 = n % 256 := by
  have h127 : (BitVec.ofInt 64 255).toNat = 2 ^ 8 - 1 := by decide
  have key : (BitVec.ofInt 64 n &&& BitVec.ofInt 64 255).toNat = (n % ((2 ^ 64 : Nat) : Int)).toNat % 2 ^ 8 := by
    rw [BitVec.toNat_and, BitVec.toNat_ofInt, h127, Nat.and_two_pow_sub_one_eq_mod]
  show IntKind.i64.wrap ((BitVec.ofInt 64 n &&& BitVec.ofInt 64 255).toNat : Nat) = n % 256
  rw [key, IntKind.wrap_i64]
  omega
theorem nmi_size (i : Nat) : (nmi i).size = 3 := rfl
theorem conv_name (i : Nat) (h : i < 256) (W : World) : (convert 53 9 (.slice (some ⟨W.heap.size, 0, none⟩) 3 3)).run Try.prog (W.alloc (.cells #[.int .u8 102, .int .u8 (97 + i / 16 : Int), .int .u8 (97 + i % 16 : Int)] 5)) = .ok (.string (nmi i)) (W.alloc (.cells #[.int .u8 102, .int .u8 (97 + i / 16 : Int), .int .u8 (97 + i % 16 : Int)] 5)) := by
  rw [run_convert_bytes_arg (P := Try.prog) _ _ _ Try.underlying53 Try.underlying5 W.heap.size 0 3 3 [102, (97 + i / 16 : Int), (97 + i % 16 : Int)] rfl ?_ _ Try.underlying9]
  · congr 2
  · intro j hj
    have hb : (W.alloc (.cells #[.int .u8 102, .int .u8 (97 + i / 16 : Int), .int .u8 (97 + i % 16 : Int)] 5)).heap[W.heap.size]? = _ := heap_alloc_new _ _
    rw [cell_of hb]
    rcases (show j = 0 ∨ j = 1 ∨ j = 2 from by omega) with rfl | rfl | rfl <;> rfl
theorem good_more : Vd.Good { data := #[109, 111, 114, 101] } := good_str [109, 111, 114, 101] (by decide) (by decide) (by decide)
set_option maxRecDepth 100000 in
set_option maxHeartbeats 2000000 in
theorem walk (n : Int) (_ : (Lit.int .i64 n).wf = true) (w : World) :
    Calls Try.prog 6 #[.int .i64 n] w fun e w' => e = .returned (.bool true) ∧ Below w.heap.size w w' := by
  go_enter Try.func6, Try.ntmps6
  go_wp2_with fail
  refine (new_disk w 4096 (by omega)).mono ?_
  rintro e w1 ⟨rfl, O1⟩
  have H1 := Lib.hid O1
  clear O1
  go_wp2_with fail
  go_loopw [5] (fun i w' => ∃ (k : Nat) (fs : List Fil), k ≤ 256 ∧ i = .int .i64 k ∧ Own w.heap.size w w' (w.heap.size + 1) w.heap.size 4096 fs ∧ fs.map Fil.name = (List.range k).map nmi ∧ total fs = 0) (fun i _ => 256 - (intOf i).toNat)
  case atStart => exact ⟨0, [], by omega, rfl, H1.out, rfl, rfl⟩
  case round =>
    obtain ⟨k, fs, hk, rfl, O, hn, ht⟩ := hrel
    have HO := Lib.hid O
    have HN := Lib.hid hn
    have HT := Lib.hid ht
    clear O hn ht
    by_cases hlt : k < 256
    · have hcv := conv_name k hlt wr
      have hG := Lib.hid (nmi_good k hlt)
      have hlen : fs.length = k := by have := congrArg List.length HN.out; simpa using this
      have hfresh : ∀ f ∈ fs, f.name ≠ nmi k := by
        intro f hf e
        have : f.name ∈ (List.range k).map nmi := by rw [← HN.out]; exact List.mem_map_of_mem hf
        obtain ⟨j, hj, hje⟩ := List.mem_map.1 this
        have hjk := List.mem_range.1 hj
        have := nmi_inj (by omega) hlt (hje.trans e)
        omega
      have HF := Lib.hid hfresh
      have HL := Lib.hid hlen
      clear hfresh hlen
      have HO2 := Lib.hid (HO.out.more (Nat.le_refl _) ((Below.refl wr.heap.size wr).alloc (Nat.le_refl _) (.cells #[.int .u8 102, .int .u8 (97 + k / 16 : Int), .int .u8 (97 + k % 16 : Int)] 5)))
      go_wp2_with fail
      refine (append_new HO2.out.disk _ _ hG.out HF.out (by rw [HL.out]; exact hlt) (by rw [HT.out]; decide)).mono ?_
      rintro e w3 ⟨rfl, bf, v', E⟩
      have HO3 := Lib.hid (HO2.out.evolves (Nat.le_refl _) E)
      clear E hcv
      go_wp2
      go_roundw
      case rel => exact ⟨k + 1, _, by omega, by go_num, HO3.out, by rw [List.map_append, HN.out, List.range_succ, List.map_append]; rfl, by have := HT.out; simp [total] at this ⊢; exact this⟩
      case measure => simp [intOf]; omega
    · obtain rfl : k = 256 := by omega
      have hn0 : bits .and .i64 n 255 = n % 256 := and255 n
      have hm0 : 0 ≤ n % 256 := by omega
      have hm1 : n % 256 < 256 := by omega
      obtain ⟨m, hm⟩ : ∃ m : Nat, n % 256 = (m : Int) := ⟨(n % 256).toNat, by omega⟩
      rw [hm] at hn0
      have hmm : m < 256 := by omega
      clear hm hm0 hm1
      have hcv := conv_name m hmm wr
      -- the file of that name
      have hlen : fs.length = 256 := by have := congrArg List.length HN.out; simpa using this
      have hget : fs[m]? = some (fs[m]'(by omega)) := List.getElem?_eq_getElem _
      generalize hf0 : fs[m]'(by omega) = f at hget
      have hfn : f.name = nmi m := by
        have h1 : (fs.map Fil.name)[m]? = some (nmi m) := by rw [HN.out, List.getElem?_map, List.getElem?_range hmm]; rfl
        rw [List.getElem?_map, hget] at h1
        simpa using h1
      have hsp : fs = fs.take m ++ f :: fs.drop (m + 1) := by rw [← hf0, ← List.drop_eq_getElem_cons, List.take_append_drop]
      have hsz : ∀ g ∈ fs, g.name.size = 3 := by
        intro g hg
        have : g.name ∈ (List.range 256).map nmi := by rw [← HN.out]; exact List.mem_map_of_mem hg
        obtain ⟨j, _, hje⟩ := List.mem_map.1 this
        rw [← hje]; rfl
      have hnd := HO.out.disk.names
      obtain ⟨l1, l2, hsp⟩ : ∃ l1 l2, fs = l1 ++ f :: l2 := ⟨_, _, hsp⟩
      clear hget hf0
      subst hsp
      have hno : ∀ g ∈ l1 ++ l2, g.name ≠ nmi m := by
        intro g hg e
        rw [← hfn] at e
        simp only [List.map_append, List.map_cons, List.nodup_append, List.nodup_cons, List.mem_map, List.mem_cons] at hnd
        rcases List.mem_append.1 hg with h | h
        · exact hnd.2.2 g.name ⟨g, h, rfl⟩ f.name (.inl rfl) e
        · exact hnd.2.1.1 ⟨g, h, e⟩
      have hml : l1.length + l2.length = 255 := by simp at hlen; omega
      have htt : total l1 + f.b.length + total l2 = 0 := by have := HT.out; rw [total_split] at this; omega
      have HG := Lib.hid (nmi_good m hmm)
      have HFN := Lib.hid hfn
      have HSZ := Lib.hid hsz
      have HNO := Lib.hid hno
      have HLN := Lib.hid hlen
      have HML := Lib.hid hml
      have HTT := Lib.hid htt
      have HM := Lib.hid good_more
      clear hfn hsz hno hlen hml htt hnd
      have HO2 := Lib.hid (HO.out.more (Nat.le_refl _) ((Below.refl wr.heap.size wr).alloc (Nat.le_refl _) (.cells #[.int .u8 102, .int .u8 (97 + m / 16 : Int), .int .u8 (97 + m % 16 : Int)] 5)))
      go_wp2_with fail
      refine (append_full HO2.out.disk _ _ HM.out (fun g hg e => by have := HSZ.out g hg; rw [e] at this; exact absurd this (by decide)) HLN.out).mono ?_
      rintro e w3 ⟨rfl, E3⟩
      have HO3 := Lib.hid (HO2.out.more (Nat.le_refl _) E3)
      clear E3 hcv
      go_wp2_with fail
      refine (append_some f HO3.out.disk _ _ HFN.out (by rw [total_split, HTT.out]; decide)).mono ?_
      rintro e w4 ⟨rfl, v4, E4⟩
      have HO4 := Lib.hid (HO3.out.evolves (Nat.le_refl _) E4)
      clear E4
      go_wp2_with fail
      refine (names_yes HO4.out.disk).mono ?_
      rintro e w5 ⟨v5, rfl, hv5, E5⟩
      obtain ⟨a5, c5, rfl⟩ : ∃ a c, v5 = .slice a 256 c := by
        have hl : (l1 ++ { f with v := v4, b := f.b ++ ({ data := #[120] } : ByteArray).data.toList } :: l2).length = 256 := by have := HLN.out; simpa using this
        rw [hl] at hv5
        rcases hv5.2 with ⟨_, h2⟩ | ⟨g, cap, cur, h1, _⟩
        · omega
        · exact ⟨_, _, h1⟩
      have HO5 := Lib.hid (HO4.out.more (Nat.le_refl _) E5)
      clear E5 hv5
      go_wp2_with fail
      refine (remove_some _ HO5.out.disk _ HFN.out).mono ?_
      rintro e w6 ⟨rfl, E6⟩
      have HO6 := Lib.hid (HO5.out.evolves (Nat.le_refl _) E6)
      clear E6
      have ht6 : total (l1 ++ l2) = 0 := by have := HTT.out; simp [total] at this ⊢; omega
      have HT6 := Lib.hid ht6
      clear ht6
      go_wp2_with fail
      refine (append_new HO6.out.disk _ _ HM.out (fun g hg e => by have := HSZ.out g (by simp only [List.mem_append, List.mem_cons] at hg ⊢; rcases hg with h | h; exact .inl h; exact .inr (.inr h)); rw [e] at this; exact absurd this (by decide)) (by rw [List.length_append, HML.out]; decide) (by rw [HT6.out]; decide)).mono ?_
      rintro e w7 ⟨rfl, bf7, v7, E7⟩
      have HO7 := Lib.hid (HO6.out.evolves (Nat.le_refl _) E7)
      clear E7
      go_wp2_with fail
      refine (append_full HO7.out.disk _ _ HG.out (fun g hg e => by
        simp only [List.mem_append, List.mem_singleton] at hg
        rcases hg with h | rfl
        · exact HNO.out g (List.mem_append.2 h) e
        · exact absurd (congrArg ByteArray.size e) (by rw [nmi_size]; show ¬ (4 : Nat) = 3; decide)) (by rw [List.length_append, List.length_append, HML.out]; rfl)).mono ?_
      rintro e w8 ⟨rfl, E8⟩
      have HO8 := Lib.hid (HO7.out.more (Nat.le_refl _) E8)
      clear E8
      go_wp2_with fail
      refine (rename_some (l1 := l1 ++ l2) (l2 := []) _ HO8.out.disk _ _ rfl HG.out).mono ?_
      rintro e w9 ⟨rfl, fs9, hR, E9⟩
      have hR9 : fs9.length = 256 ∧ total fs9 = 1 := by
        rcases hR with ⟨_, rfl⟩ | ⟨m1, g, m2, h1, h2, _⟩
        · refine ⟨by rw [List.append_nil, List.length_append, List.length_append, HML.out]; rfl, ?_⟩
          have := HT6.out
          simp [total] at this ⊢
          omega
        · exact absurd h2 (HNO.out g (by rw [List.append_nil] at h1; rw [h1]; simp))
      have HO9 := Lib.hid (HO8.out.evolves (Nat.le_refl _) E9)
      have HR9 := Lib.hid hR9
      clear E9 hR hR9
      go_wp2_with fail
      refine (names_yes HO9.out.disk).mono ?_
      rintro e w10 ⟨v10, rfl, hv10, E10⟩
      obtain ⟨a10, c10, rfl⟩ : ∃ a c, v10 = .slice a 256 c := by
        rw [HR9.out.1] at hv10
        rcases hv10.2 with ⟨_, h2⟩ | ⟨g, cap, cur, h1, _⟩
        · omega
        · exact ⟨_, _, h1⟩
      have HO10 := Lib.hid (HO9.out.more (Nat.le_refl _) E10)
      clear E10 hv10
      go_wp2_with fail
      refine (used_yes HO10.out.disk).mono ?_
      rintro e w11 ⟨rfl, E11⟩
      have HO11 := Lib.hid (HO10.out.more (Nat.le_refl _) E11)
      clear E11
      rw [HR9.out.2]
      go_wp2_with fail
      refine (awake w11).mono ?_
      rintro e w12 ⟨rfl, E12⟩
      have HO12 := Lib.hid (HO11.out.more (Nat.le_refl _) E12)
      go_wp2
      go_ret
      exact ⟨rfl, HO12.out.below⟩
end Go.Proofs.Ytpmalnhlbpdohaa.VdMany
