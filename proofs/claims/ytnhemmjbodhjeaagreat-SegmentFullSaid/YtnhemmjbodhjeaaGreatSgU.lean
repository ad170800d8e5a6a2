/- The segment law's told: a segment holds just these batches. -/
import Derived.Test.YtnhemmjbodhjeaaGreatSgT
namespace Go.Proofs.YtnhemmjbodhjeaaGreat.Sg
open Go.RowKit Go.Maps Go.ChangeMaps Go.WideMaps Go.Proofs.YtnhemmjbodhjeaaGreat.Vd Go.Proofs.YtnhemmjbodhjeaaGreat.Rc Go.Proofs.YtnhemmjbodhjeaaGreat.Ba Go.Proofs.YtnhemmjbodhjeaaGreat.Rf
set_option linter.unusedVariables false
theorem endOf_take_mono (base : Nat) (xs : List Bat) {j k : Nat} (h : j ≤ k) : endOf base (xs.take j) ≤ endOf base (xs.take k) := by
  have e : xs.take k = xs.take j ++ (xs.take k).drop j := by
    conv => lhs; rw [← List.take_append_drop j (xs.take k)]
    rw [List.take_take, Nat.min_eq_left h]
  rw [e, endOf_append]
  exact Nat.le_add_right _ _
theorem chain_in {base : Nat} {xs : List Bat} (h : Chain base xs) (k : Nat) (hk : k < xs.length) : base ≤ xs[k].b ∧ xs[k].b + xs[k].c ≤ endOf base xs := by
  obtain ⟨_, h2⟩ := h.get k hk
  have h3 := endOf_take_succ base xs k hk
  have h4 := endOf_take_mono base xs (show k + 1 ≤ xs.length from hk)
  rw [List.take_length] at h4
  have h5 := endOf_take_mono base xs (Nat.zero_le k)
  rw [List.take_zero] at h5
  have h6 : endOf base [] = base := by simp [endOf]
  omega
theorem chain_unique {base : Nat} {xs : List Bat} (h : Chain base xs) (o : Int) (j k : Nat) (hj : j < xs.length) (hk : k < xs.length) (h1 : (xs[j].b : Int) ≤ o) (h2 : o < (xs[j].b : Int) + xs[j].c) (h3 : (xs[k].b : Int) ≤ o) (h4 : o < (xs[k].b : Int) + xs[k].c) : j = k := by
  have aux : ∀ a b (ha : a < xs.length) (hb : b < xs.length), a < b → xs[a].b + xs[a].c ≤ xs[b].b := by
    intro a b ha hb hab
    rw [(h.get a ha).2, (h.get b hb).2, ← endOf_take_succ base xs a ha]
    exact endOf_take_mono base xs hab
  rcases Nat.lt_trichotomy j k with h5 | h5 | h5
  · have := aux j k hj hk h5; omega
  · exact h5
  · have := aux k j hk hj h5; omega
/-- what Batch answers, at any offset -/
def AnyBatch (xs : List Bat) (o : Int) (e : Ending) : Prop :=
  (∃ (k : Nat) (h : k < xs.length), (xs[k].b : Int) ≤ o ∧ o < (xs[k].b : Int) + xs[k].c ∧ e = .returned (.tuple #[.string (Bt.str xs[k].l), .int .i64 0])) ∨
  ((∀ (k : Nat) (h : k < xs.length), ¬ ((xs[k].b : Int) ≤ o ∧ o < (xs[k].b : Int) + xs[k].c)) ∧ e = .returned (.tuple #[.string { data := #[] }, .int .i64 3]))
theorem own_batch_any {w0 w : World} {bs bd bm room : Nat} {name : ByteArray} {base : Nat} {fs : List Fil} {xs : List Bat} {mv : Value} (h : SegOwn w0 w bs bd bm room name base fs xs mv) (o : Int) :
    Calls Tryz.prog 25 #[.pointer (some ⟨bs, 0, none⟩), .int .i64 o] w fun e w' => AnyBatch xs o e ∧ Below w.heap.size w w' := by
  by_cases ho : o < base ∨ (endOf base xs : Int) ≤ o
  · refine (batch_out h.at'.seg o ho).mono ?_
    rintro e w' ⟨rfl, hb⟩
    refine ⟨.inr ⟨fun k hk => ?_, rfl⟩, hb⟩
    have := chain_in h.at'.chain k hk
    omega
  · obtain ⟨n, rfl⟩ : ∃ n : Nat, o = n := ⟨o.toNat, by omega⟩
    refine (own_batch h n (by omega) (by omega)).mono ?_
    rintro e w' ⟨⟨k, hk, h1, h2, rfl⟩, hb⟩
    have h3 := (h.at'.chain.get k hk).2
    exact ⟨.inl ⟨k, hk, by omega, by omega, rfl⟩, hb⟩
theorem endOf_le {base : Nat} {xs : List Bat} (h : Chain base xs) (hb : base ≤ 1099511627520) : base ≤ endOf base xs ∧ endOf base xs ≤ 1099511627776 := by
  rcases snoc_cases xs with rfl | ⟨ys, x, rfl⟩
  · simp [endOf]; omega
  · have hk : ys.length < (ys ++ [x]).length := by simp
    have h1 := chain_in h ys.length hk
    obtain ⟨hok, hxb⟩ := h.get ys.length hk
    rw [show (ys ++ [x])[ys.length] = x from by simp] at h1 hok hxb
    have := hok.bounds
    have e : endOf base (ys ++ [x]) = x.b + x.c := by rw [endOf_snoc, hxb]; simp
    omega
set_option maxRecDepth 100000 in
set_option maxHeartbeats 4000000 in
theorem told {w0 w : World} {bs bd bm room : Nat} {name : ByteArray} {base : Nat} {fs : List Fil} {xs : List Bat} {mv : Value} {B : Nat} {v : Value} (h : SegOwn w0 w bs bd bm room name base fs xs mv) (hT : Texts w B v xs) (hroom : (text xs).length ≤ 16777216) (hn : xs.length ≤ 1048576) (hb : base ≤ 1099511627520) :
    Calls Tryz.prog 17 #[.pointer (some ⟨bs, 0, none⟩), v, .int .i64 base] w fun e w' => e = .returned (.bool true) ∧ Below w.heap.size w w' := by
  obtain ⟨ap, cap, rfl⟩ := hT.form
  have HS := Lib.hid h
  have HT := Lib.hid hT
  have HR := Lib.hid hroom
  have HB := Lib.hid hb
  clear h hT hroom hb
  go_enter Tryz.func17, Tryz.ntmps17
  go_wp2_with fail
  go_loopw [7, 8] (fun z i wr => ∃ k : Nat, k ≤ xs.length ∧ i = .int .i64 k ∧ z = .int .i64 (offs xs k) ∧ wr = w) (fun _ i _ => xs.length - (intOf i).toNat)
  case atStart => exact ⟨0, by omega, rfl, rfl, rfl⟩
  case round =>
    obtain ⟨k, hk, rfl, rfl, rfl⟩ := hrel
    by_cases hlt : k < xs.length
    · have hlt' : (k : Int) < (xs.length : Int) := by omega
      have hk0 : (0 : Int) ≤ (k : Int) := by omega
      obtain ⟨g, hap, hc⟩ := HT.out.cell k hlt
      subst hap
      have hof := offs_succ xs k hlt
      have hol := offs_le xs (k + 1)
      have hsz := Bt.str_size xs[k].l
      have hR := HR.out
      obtain ⟨Z, hZ⟩ : ∃ Z, Z = offs xs (k + 1) := ⟨_, rfl⟩
      have HZ := Lib.hid hZ
      rw [← hZ] at hof hol
      generalize offs xs k = Y at *
      generalize xs[k].l = t at *
      have hyz : (Y : Int) + ((Bt.str t).size : Int) = (Z : Int) := by rw [hsz]; omega
      have hzw : IntKind.i64.wrap (Z : Int) = (Z : Int) := IntWalk.i64_in _ (by omega)
      clear hof hsz hR hZ
      go_wp2_with fail
      go_roundw
      case rel => exact ⟨k + 1, by omega, by go_num, by rw [HZ.out], trivial⟩
      case measure => simp [intOf]; omega
    · obtain rfl : k = xs.length := by omega
      have hlt' : ¬ (xs.length : Int) < (xs.length : Int) := by omega
      clear hlt
      rw [offs_all]
      go_wp2_with fail
      refine (r_end base HT.out HS.out.at'.chain hn).mono ?_
      rintro e w1 ⟨rfl, hb1⟩
      have HS1 := Lib.hid (HS.out.more hb1)
      have HT1 := Lib.hid (HT.out.below hb1)
      have HW1 := Lib.hid hb1
      clear hb1
      go_wp2_with fail
      refine (base_yes HS1.out.at'.seg).mono ?_
      rintro e w2 ⟨rfl, rfl⟩
      go_wp2_with fail
      refine (end_yes HS1.out.at'.seg).mono ?_
      rintro e w2 ⟨rfl, rfl⟩
      go_wp2_with fail
      refine (len_yes HS1.out.at'.seg).mono ?_
      rintro e w2 ⟨rfl, rfl⟩
      go_wp2_with fail
      refine (size_yes HS1.out.at'.seg).mono ?_
      rintro e w2 ⟨rfl, rfl⟩
      have hE := endOf_le HS.out.at'.chain HB.out
      obtain ⟨E, hE0⟩ : ∃ E : Int, E = (endOf base xs : Int) := ⟨_, rfl⟩
      have hEb : (base : Int) ≤ E := by omega
      have hEm : E ≤ 1099511627776 := by omega
      rw [← hE0]
      have HE := Lib.hid hE0
      clear hE hE0
      go_wp2_with fail
      go_loopw [10] (fun i wz => ∃ o : Int, i = .int .i64 o ∧ (base : Int) - 1 ≤ o ∧ o ≤ E + 1 ∧ Below wr.heap.size wr wz) (fun i _ => (E + 1 - intOf i).toNat)
      case atStart => exact ⟨(base : Int) - 1, by congr 1, by omega, by omega, HW1.out⟩
      case round =>
        obtain ⟨o, rfl, ho0, ho1, hbw⟩ := hrel
        have HW := Lib.hid hbw
        have HSW := Lib.hid (HS.out.more hbw)
        have HTW := Lib.hid (HT.out.below hbw)
        clear hbw
        by_cases hlt : o ≤ E
        · go_wp2_with fail
          refine (own_batch_any HSW.out o).mono ?_
          rintro e w3 ⟨hA, hb3⟩
          have HW3 := Lib.hid (HW.out.trans (hb3.mono HW.out.size))
          have HT3 := Lib.hid (HTW.out.below hb3)
          clear hb3
          rcases hA with ⟨k, hk, h1, h2, rfl⟩ | ⟨hno, rfl⟩
          · have HK := Lib.hid (And.intro h1 h2)
            clear h1 h2
            go_wp2_with fail
            refine (r_having o HT3.out (fun k hk => (HS.out.at'.chain.get k hk).1) hn).mono ?_
            rintro e w4 ⟨hH, hb4⟩
            have HW4 := Lib.hid (HW3.out.trans (hb4.mono HW3.out.size))
            have HT4 := Lib.hid (HT3.out.below hb4)
            clear hb4
            rcases hH with ⟨k2, hk2, h1, h2, rfl⟩ | ⟨hno, rfl⟩
            · obtain rfl := chain_unique HS.out.at'.chain o k k2 hk hk2 HK.out.1 HK.out.2 h1 h2
              clear h1 h2
              obtain ⟨g, hap, hc⟩ := HT4.out.cell k hk
              subst hap
              generalize xs[k].l = t at *
              have hk0 : (0 : Int) ≤ (k : Int) := by omega
              have hk1 : ¬ (k : Int) < 0 := by omega
              have hk2 : (k : Int) < (xs.length : Int) := by omega
              go_wp2_with fail
              go_roundw
              case rel => exact ⟨o + 1, rfl, by omega, by omega, HW4.out⟩
              case measure => simp only [intOf]; omega
            · exact absurd HK.out (hno k hk)
          · have HNO := Lib.hid hno
            clear hno
            go_wp2_with fail
            refine (r_having o HT3.out (fun k hk => (HS.out.at'.chain.get k hk).1) hn).mono ?_
            rintro e w4 ⟨hH, hb4⟩
            have HW4 := Lib.hid (HW3.out.trans (hb4.mono HW3.out.size))
            clear hb4
            rcases hH with ⟨k2, hk2, h1, h2, rfl⟩ | ⟨_, rfl⟩
            · exact absurd ⟨h1, h2⟩ (HNO.out k2 hk2)
            · go_wp2_with fail
              go_roundw
              case rel => exact ⟨o + 1, rfl, by omega, by omega, HW4.out⟩
              case measure => simp only [intOf]; omega
        · go_wp2
          go_ret
          exact ⟨rfl, HW.out⟩
end Go.Proofs.YtnhemmjbodhjeaaGreat.Sg
