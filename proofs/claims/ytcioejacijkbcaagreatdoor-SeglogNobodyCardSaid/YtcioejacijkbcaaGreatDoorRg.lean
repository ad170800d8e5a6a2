/- A region that draws its order, walked in the order of the text. No condition. -/
import Derived.OrdersHeld
import Derived.Deep.RegionHeld
import Derived.KernelRfl
namespace Go.Proofs.YtcioejacijkbcaaGreatDoor.Rg
set_option linter.unusedVariables false
section
variable {P : Program} {ops : Array Oper} {Q : Exit → Act → World → Prop} {S : World → Prop}
/-- an operation comes to a value, and S stands behind it -/
def Does (P : Program) (o : Oper) (a : Act) (v : Value) (S : World → Prop) (w : World) : Prop :=
  match (execOp a.eval o).run P w with
  | .ok (.value u) w' => u = v ∧ S w'
  | .ok .skip w' => v = undef ∧ S w'
  | .ok (.enter f args) w' => Calls P f args w' fun e w'' => e = .returned v ∧ S w''
  | _ => False
def StepTo (P : Program) (ops : Array Oper) (o : Oper) (a : Act) (v : Value) (S : World → Prop) : Prop :=
  (Region.wanted o (yielded ops a.tmps) = true ∧ ∀ w, S w → Does P o a v S w) ∨ (Region.wanted o (yielded ops a.tmps) = false ∧ v = undef)
/-- the operations in the order of the text -/
def Seq (P : Program) (ops : Array Oper) (Q : Exit → Act → World → Prop) (S : World → Prop) : List Oper → Act → Prop
  | [], a => ∀ w, S w → Q .normal a w
  | o :: rest, a => ∃ v, StepTo P ops o a v S ∧ Seq P ops Q S rest (a.put o.dst v)
theorem Does.wp {o : Oper} {a b : Act} {v : Value} {w : World} (h : Does P o a v S w) (he : execOp b.eval o = execOp a.eval o) {K : Act → World → Prop} (hK : ∀ w', S w' → K (b.put o.dst v) w') :
    o.wp P b w K Q := by
  unfold Oper.wp
  unfold Does at h
  rw [he]
  generalize (execOp a.eval o).run P w = r at h
  cases r with
  | halt x w' => exact h.elim
  | ok n w' =>
    cases n with
    | value u => obtain ⟨rfl, hs⟩ := h; exact hK _ hs
    | skip => obtain ⟨rfl, hs⟩ := h; exact hK _ hs
    | enter f args =>
      refine Calls.mono h fun e w'' hh => ?_
      obtain ⟨rfl, hs⟩ := hh
      exact hK _ hs
    | defer d => exact h.elim
    | row r args => exact h.elim
    | _ => exact h.elim
/-- whatever stands in the way of the text's order -/
def pre (B : Array Nat) (j i : Nat) : Bool := (B.getD j 0).testBit i
def preOk (ops : Array Oper) (B : Array Nat) : Bool :=
  (List.range ops.size).all fun j => match ops[j]? with
    | none => true
    | some o => o.after.all (fun e => !Region.binds .any e || decide (e.on < j)) && (List.range ops.size).all fun i => !pre B j i || o.after.any fun e => Region.binds .any e && (e.on == i || pre B e.on i)
def dstOf (ops : Array Oper) (i : Nat) : Option Tmp := (ops[i]?).bind (·.dst)
def tmpOk (ops : Array Oper) (B : Array Nat) (n : Nat) : Bool :=
  (List.range ops.size).all fun j => match ops[j]? with
    | none => true
    | some o =>
      (match o.dst with | none => true | some d => decide (d < n)) &&
      (match o.op with | .select .. => false | _ => true) &&
      (List.range ops.size).all fun i => i == j || match dstOf ops i with
        | none => true
        | some d => o.dst != some d && (!(o.looksAt ops).contains d || (decide (i < j) && pre B j i) || (decide (j < i) && pre B i j))
def seqOk (ops : Array Oper) (n : Nat) : Bool := preOk ops (Region.before ops) && tmpOk ops (Region.before ops) n

theorem preOk_spec {B : Array Nat} (h : preOk ops B = true) {j : Nat} {o : Oper} (ho : ops[j]? = some o) :
    (∀ e ∈ o.after, Region.binds .any e = true → e.on < j) ∧ ∀ i, i < ops.size → pre B j i = true → ∃ e ∈ o.after, Region.binds .any e = true ∧ (e.on = i ∨ pre B e.on i = true) := by
  unfold preOk at h
  have hj : j < ops.size := (Array.getElem?_eq_some_iff.1 ho).1
  have h1 := List.all_eq_true.1 h j (List.mem_range.2 hj)
  simp only [ho, Bool.and_eq_true] at h1
  obtain ⟨h1, h2⟩ := h1
  refine ⟨fun e he hb => ?_, fun i hi hp => ?_⟩
  · have := Array.all_eq_true_iff_forall_mem.1 h1 e he
    simpa [hb] using this
  · have := List.all_eq_true.1 h2 i (List.mem_range.2 hi)
    simp only [hp, Bool.not_true, Bool.false_or] at this
    rw [← Array.any_toList] at this
    obtain ⟨e, he, h3⟩ := List.any_eq_true.1 this
    refine ⟨e, by simpa using he, ?_⟩
    simpa using h3
/-- down-closed -/
def Closed (ops : Array Oper) (L : Nat → Prop) : Prop := ∀ j o, ops[j]? = some o → L j → ∀ e ∈ o.after, Region.binds .any e = true → L e.on
theorem pre_in {B : Array Nat} (h : preOk ops B = true) {L : Nat → Prop} (hc : Closed ops L) : ∀ (m j : Nat) (o : Oper), j < m → ops[j]? = some o → (∀ e ∈ o.after, Region.binds .any e = true → L e.on) → ∀ i, i < ops.size → pre B j i = true → L i
  | 0, _, _, hj, _, _, _, _, _ => by omega
  | m + 1, j, o, hj, ho, hL, i, hi, hp => by
    obtain ⟨hlt, hx⟩ := preOk_spec h ho
    obtain ⟨e, he, hb, h1⟩ := hx i hi hp
    rcases h1 with h1 | h1
    · rw [← h1]; exact hL e he hb
    · have hle := hL e he hb
      have hon := hlt e he hb
      have hjs : j < ops.size := (Array.getElem?_eq_some_iff.1 ho).1
      obtain ⟨o', ho'⟩ : ∃ o', ops[e.on]? = some o' := ⟨_, Array.getElem?_eq_some_iff.2 ⟨by omega, rfl⟩⟩
      exact pre_in h hc m e.on o' (by omega) ho' (fun e' he' hb' => hc _ _ ho' hle e' he' hb') i hi h1
theorem tmpOk_spec {B : Array Nat} {n : Nat} (h : tmpOk ops B n = true) {j : Nat} {o : Oper} (ho : ops[j]? = some o) :
    (∀ d, o.dst = some d → d < n) ∧ (∀ cs b, o.op ≠ .select cs b) ∧ ∀ i d, i ≠ j → dstOf ops i = some d → o.dst ≠ some d ∧ (d ∈ o.looksAt ops → (i < j ∧ pre B j i = true) ∨ (j < i ∧ pre B i j = true)) := by
  unfold tmpOk at h
  have hj : j < ops.size := (Array.getElem?_eq_some_iff.1 ho).1
  have h1 := List.all_eq_true.1 h j (List.mem_range.2 hj)
  simp only [ho, Bool.and_eq_true] at h1
  obtain ⟨⟨h1, h2⟩, h3⟩ := h1
  refine ⟨fun d hd => by simpa [hd] using h1, fun cs b hs => (by rw [hs] at h2; cases h2), fun i d hij hd => ?_⟩
  have hi : i < ops.size := by
    unfold dstOf at hd
    rcases Nat.lt_or_ge i ops.size with h' | h'
    · exact h'
    · rw [Array.getElem?_eq_none h'] at hd; cases hd
  have := List.all_eq_true.1 h3 i (List.mem_range.2 hi)
  simp only [beq_eq_false_iff_ne.2 hij, Bool.false_or, hd, Bool.and_eq_true, bne_iff_ne, Bool.or_eq_true, Bool.not_eq_true', decide_eq_true_eq, List.contains_eq_mem, decide_eq_false_iff_not] at this
  refine ⟨this.1, fun hm => ?_⟩
  rcases this.2 with (h4 | h4) | h4
  · exact absurd hm h4
  · exact .inl h4
  · exact .inr h4
/-- a state in which the operations of L have left their values -/
structure Left (ops : Array Oper) (a0 : Act) (v : Nat → Value) (L : Nat → Prop) (a : Act) : Prop where
  defers : a.defers = a0.defers
  size : a.tmps.size = a0.tmps.size
  put : ∀ i d, L i → dstOf ops i = some d → a.tmps[d]? = some (v i)
  old : ∀ t, (∀ i, L i → dstOf ops i ≠ some t) → a.tmps[t]? = a0.tmps[t]?
theorem Left.agree {a0 : Act} {v : Nat → Value} {L M : Nat → Prop} {a b : Act} (ha : Left ops a0 v L a) (hb : Left ops a0 v M b) {t : Tmp} (h : ∀ i, dstOf ops i = some t → (L i ↔ M i)) : a.tmps[t]? = b.tmps[t]? := by
  by_cases hx : ∃ i, L i ∧ dstOf ops i = some t
  · obtain ⟨i, hi, hd⟩ := hx
    rw [ha.put i t hi hd, hb.put i t ((h i hd).1 hi) hd]
  · rw [ha.old t (fun i hi hd => hx ⟨i, hi, hd⟩), hb.old t (fun i hi hd => hx ⟨i, (h i hd).2 hi, hd⟩)]
theorem Left.next {a0 : Act} {v : Nat → Value} {L : Nat → Prop} {a : Act} (ha : Left ops a0 v L a) {j : Nat} {o : Oper} (ho : ops[j]? = some o) (hd : ∀ d, o.dst = some d → d < a0.tmps.size)
    (hne : ∀ i d, i ≠ j → dstOf ops i = some d → o.dst ≠ some d) : Left ops a0 v (fun i => L i ∨ i = j) (a.put o.dst (v j)) := by
  have hdj : dstOf ops j = o.dst := by unfold dstOf; rw [ho]; rfl
  cases hdst : o.dst with
  | none =>
    refine ⟨ha.defers, ha.size, fun i d hi hdi => ?_, fun t ht => ha.old t (fun i hi => ht i (.inl hi))⟩
    rcases hi with hi | rfl
    · exact ha.put i d hi hdi
    · rw [hdj, hdst] at hdi; cases hdi
  | some d =>
    have hlt := hd d hdst
    refine ⟨ha.defers, ?_, fun i e hi hdi => ?_, fun t ht => ?_⟩
    · simp only [Act.put, Array.size_setIfInBounds]; exact ha.size
    · simp only [Act.put, Array.getElem?_setIfInBounds]
      by_cases hij : i = j
      · subst hij
        rw [hdj, hdst] at hdi; cases hdi
        rw [if_pos rfl, if_pos (by rw [ha.size]; exact hlt)]
      · have := hne i e hij hdi
        rw [hdst] at this
        rw [if_neg (fun h => this (by rw [h]))]
        exact ha.put i e (hi.resolve_right hij) hdi
    · have htd : d ≠ t := fun h => ht j (.inr rfl) (by rw [hdj, hdst, h])
      simp only [Act.put, Array.getElem?_setIfInBounds, if_neg htd]
      exact ha.old t (fun i hi => ht i (.inl hi))
theorem eval_same {a b : Act} {x : Operand} (h : ∀ t, x = .tmp t → a.tmps[t]? = b.tmps[t]?) : a.eval x = b.eval x := by
  cases x with
  | tmp t => simp only [Act.eval, Array.getD_eq_getD_getElem?, h t rfl]
  | _ => rfl
theorem exec_same {o : Oper} (hs : ∀ cs b, o.op ≠ .select cs b) {a b : Act} (h : ∀ t, t ∈ o.looksAt ops → a.tmps[t]? = b.tmps[t]?) :
    execOp a.eval o = execOp b.eval o ∧ Region.wanted o (yielded ops a.tmps) = Region.wanted o (yielded ops b.tmps) := by
  refine ⟨execOp_congr o hs fun x hx => eval_same fun t ht => h t (by subst ht; exact List.mem_append_left _ (List.mem_filterMap.2 ⟨.tmp t, by simpa using hx, rfl⟩)), ?_⟩
  unfold Region.wanted
  cases hg : o.guard with
  | none => rfl
  | some g =>
    obtain ⟨g, want⟩ := g
    simp only
    have : yielded ops a.tmps g = yielded ops b.tmps g := by
      unfold yielded
      cases hd : (ops[g]?).bind (·.dst) with
      | none => rfl
      | some d =>
        simp only [Option.bind_some]
        rw [h d (List.mem_append_right _ (by rw [hg]; simp [hd]))]
    rw [this]
/-- the order of the text, unfolded -/
theorem Seq.unfold : ∀ (l : List Oper) (a : Act), Seq P ops Q S l a →
    ∃ (v : Nat → Value) (b : Nat → Act), b 0 = a ∧ (∀ i o, l[i]? = some o → StepTo P ops o (b i) (v i) S ∧ b (i + 1) = (b i).put o.dst (v i)) ∧ ∀ w, S w → Q .normal (b l.length) w
  | [], a, h => ⟨fun _ => undef, fun _ => a, rfl, fun i o ho => by simp at ho, h⟩
  | o :: rest, a, h => by
    obtain ⟨u, hu, hr⟩ := h
    obtain ⟨v, b, h0, h1, h2⟩ := Seq.unfold rest _ hr
    refine ⟨fun i => match i with | 0 => u | i + 1 => v i, fun i => match i with | 0 => a | i + 1 => b i, rfl, fun i o' ho => ?_, fun w hw => h2 w hw⟩
    cases i with
    | zero =>
      simp only [List.getElem?_cons_zero, Option.some.injEq] at ho
      subst ho
      exact ⟨hu, h0⟩
    | succ i =>
      rw [List.getElem?_cons_succ] at ho
      exact h1 i o' ho
theorem Left.prefix {a0 : Act} {v : Nat → Value} {b : Nat → Act} (h0 : b 0 = a0) (h1 : ∀ i o, ops[i]? = some o → b (i + 1) = (b i).put o.dst (v i)) {B : Array Nat} (ht : tmpOk ops B a0.tmps.size = true) :
    ∀ k, k ≤ ops.size → Left ops a0 v (fun i => i < k) (b k)
  | 0, _ => by rw [h0]; exact ⟨rfl, rfl, fun i d hi => by omega, fun t _ => rfl⟩
  | k + 1, hk => by
    have ih := Left.prefix h0 h1 ht k (by omega)
    obtain ⟨o, ho⟩ : ∃ o, ops[k]? = some o := ⟨_, Array.getElem?_eq_some_iff.2 ⟨by omega, rfl⟩⟩
    obtain ⟨t1, t2, t3⟩ := tmpOk_spec ht ho
    have := ih.next ho t1 (fun i d hij hd => (t3 i d hij hd).1)
    rw [h1 k o ho]
    refine ⟨this.defers, this.size, fun i d hi => this.put i d (by omega), fun t hh => this.old t (fun i hi => hh i (by omega))⟩
theorem count_set {l : Array Bool} {i : Nat} (h : l.getD i true = false) : ((l.setIfInBounds i true).toList.count false) + 1 = l.toList.count false := by
  have hi : i < l.size := by
    rcases Nat.lt_or_ge i l.size with h' | h'
    · exact h'
    · simp [Array.getD_eq_getD_getElem?, Array.getElem?_eq_none h'] at h
  have hv : l[i] = false := by simpa [Array.getD_eq_getD_getElem?, hi] using h
  rw [Array.toList_setIfInBounds, List.count_set (by simpa using hi)]
  have hpos : 0 < l.toList.count false := List.count_pos_iff.2 (by rw [← hv]; simp)
  rw [Array.count_toList] at hpos ⊢
  simp [hv]
  omega
theorem act_ext {a b : Act} (h1 : a.defers = b.defers) (h2 : ∀ t : Nat, a.tmps[t]? = b.tmps[t]?) : a = b := by
  cases a; cases b
  simp only [Act.mk.injEq]
  exact ⟨Array.ext_getElem? h2, h1⟩
theorem any_of_seq {a0 : Act} {v : Nat → Value} {b : Nat → Act} (h0 : b 0 = a0) (h1 : ∀ i o, ops[i]? = some o → StepTo P ops o (b i) (v i) S ∧ b (i + 1) = (b i).put o.dst (v i)) (h2 : ∀ w, S w → Q .normal (b ops.size) w)
    {B : Array Nat} (hp : preOk ops B = true) (ht : tmpOk ops B a0.tmps.size = true) :
    ∀ (fuel : Nat) (listed : Array Bool) (a : Act) (w : World), listed.size = ops.size → listed.toList.count false ≤ fuel → Closed ops (fun i => listed.getD i false = true) →
      Left ops a0 v (fun i => listed.getD i false = true) a → S w → wpAny P .any ops Q fuel listed a w := by
  have hpx := Left.prefix h0 (fun i o ho => (h1 i o ho).2) ht
  have hgd : ∀ (listed : Array Bool) (j : Nat), listed.getD j true = false → listed.getD j false = false := by
    intro listed j h
    simp only [Array.getD_eq_getD_getElem?] at h ⊢
    cases hx : listed[j]? with
    | none => rw [hx] at h; cases h
    | some x => rw [hx] at h; exact h
  -- nothing is ready: all is done
  have hend : ∀ (listed : Array Bool) (a : Act) (w : World), listed.size = ops.size → Left ops a0 v (fun i => listed.getD i false = true) a → S w → Region.ready .any ops listed = [] → Q .normal a w := by
    intro listed a w hsz hL hS hr
    have hall : ∀ m i, i < m → i < ops.size → listed.getD i false = true := by
      intro m
      induction m with
      | zero => intro i hi; omega
      | succ m ih =>
        intro i hi his
        cases hx : listed.getD i false with
        | true => rfl
        | false =>
          exfalso
          obtain ⟨o, ho⟩ : ∃ o, ops[i]? = some o := ⟨_, Array.getElem?_eq_some_iff.2 ⟨his, rfl⟩⟩
          have : i ∈ Region.ready .any ops listed := mem_ready.2 ⟨by
            simp only [Array.getD_eq_getD_getElem?] at hx ⊢
            rw [Array.getElem?_eq_getElem (by omega)] at hx ⊢
            exact hx, o, ho, fun e he hb => by
              have := (preOk_spec hp ho).1 e he hb
              exact ih e.on (by omega) (by omega)⟩
          rw [hr] at this
          cases this
    have : a = b ops.size := by
      have hf := hpx ops.size (Nat.le_refl _)
      refine act_ext (hL.defers.trans hf.defers.symm) fun t => hL.agree hf fun i hd => ?_
      have hi : i < ops.size := by
        unfold dstOf at hd
        rcases Nat.lt_or_ge i ops.size with h' | h'
        · exact h'
        · rw [Array.getElem?_eq_none h'] at hd; cases hd
      exact ⟨fun _ => hi, fun _ => hall (i + 1) i (by omega) hi⟩
    rw [this]; exact h2 w hS
  intro fuel
  induction fuel with
  | zero =>
    intro listed a w hsz hc hcl hL hS
    have hr : Region.ready .any ops listed = [] := by
      apply List.eq_nil_iff_forall_not_mem.2
      intro j hj
      have h0 := (mem_ready.1 hj).1
      have := count_set h0
      omega
    exact ⟨hr, hend listed a w hsz hL hS hr⟩
  | succ fuel ih =>
    intro listed a w hsz hc hcl hL hS
    refine ⟨hend listed a w hsz hL hS, fun j hj => ?_⟩
    obtain ⟨hun, o, ho, hall⟩ := mem_ready.1 hj
    have hjs : j < ops.size := (Array.getElem?_eq_some_iff.1 ho).1
    obtain ⟨t1, t2, t3⟩ := tmpOk_spec ht ho
    have hsame := exec_same (ops := ops) t2 (a := a) (b := b j) (fun t htl => hL.agree (hpx j (by omega)) fun i hd => by
      by_cases hij : i = j
      · subst hij
        refine ⟨fun h => ?_, fun h => by omega⟩
        rw [hgd _ _ hun] at h; cases h
      · have his : i < ops.size := by
          unfold dstOf at hd
          rcases Nat.lt_or_ge i ops.size with h' | h'
          · exact h'
          · rw [Array.getElem?_eq_none h'] at hd; cases hd
        rcases (t3 i t hij hd).2 htl with ⟨hlt, hpre⟩ | ⟨hlt, hpre⟩
        · exact ⟨fun _ => hlt, fun _ => pre_in hp hcl (j + 1) j o (by omega) ho hall i his hpre⟩
        · refine ⟨fun h => ?_, fun h => by omega⟩
          exfalso
          obtain ⟨oi, hoi⟩ : ∃ oi, ops[i]? = some oi := ⟨_, Array.getElem?_eq_some_iff.2 ⟨his, rfl⟩⟩
          have := pre_in hp hcl (i + 1) i oi (by omega) hoi (fun e he hb => hcl i oi hoi h e he hb) j hjs hpre
          rw [hgd _ _ hun] at this; cases this)
    have hgo : ∀ w', S w' → wpAny P .any ops Q fuel (listed.setIfInBounds j true) (a.put o.dst (v j)) w' := by
      intro w' hS'
      have hget : ∀ i, (listed.setIfInBounds j true).getD i false = true ↔ (listed.getD i false = true ∨ i = j) := by
        intro i
        simp only [Array.getD_eq_getD_getElem?, Array.getElem?_setIfInBounds]
        by_cases hij : j = i
        · subst hij
          rw [if_pos rfl, if_pos (by omega)]; simp
        · rw [if_neg hij]
          exact ⟨.inl, fun h => h.resolve_right (fun e => hij e.symm)⟩
      refine ih _ _ w' (by simp [hsz]) (by have := count_set hun; omega) ?_ ?_ hS'
      · intro k ok hok hk e he hb
        rw [hget] at hk ⊢
        rcases hk with hk | rfl
        · exact .inl (hcl k ok hok hk e he hb)
        · rw [ho] at hok; cases hok
          exact .inl (hall e he hb)
      · have hn := hL.next ho t1 (fun i d hij hd => (t3 i d hij hd).1)
        exact ⟨hn.defers, hn.size, fun i d hi => hn.put i d ((hget i).1 hi), fun t hh => hn.old t (fun i hi => hh i ((hget i).2 hi))⟩
    obtain ⟨hst, _⟩ := h1 j o ho
    unfold wpOp
    simp only [ho]
    rcases hst with ⟨hw, hd⟩ | ⟨hw, hv⟩
    · rw [hsame.2, hw, if_pos rfl]
      exact .inl ((hd w hS).wp hsame.1 hgo)
    · rw [hsame.2, hw, if_neg (by simp)]
      rw [← hv]; exact hgo w hS
/-- **A drawn region in the order of its text.** -/
theorem wp_region_seq {id : Nat} {a : Act} {w : World} (hm : P.follows .mixedOrders = true) (hok : seqOk ops a.tmps.size = true) (hS : S w.drew) (h : Seq P ops Q S ops.toList a) :
    (Code.region id ops true).wp P Q a w := by
  unfold seqOk at hok
  rw [Bool.and_eq_true] at hok
  obtain ⟨v, b, h0, h1, h2⟩ := h.unfold
  refine wp_region_any hm (any_of_seq h0 (fun i o ho => h1 i o (by simpa using ho)) (by simpa using h2) hok.1 hok.2 _ _ a _ (by simp) (by simp) ?_ ?_ hS)
  · intro j o ho hj
    exfalso
    simp only [Array.getD_eq_getD_getElem?, Array.getElem?_replicate] at hj
    split at hj <;> cases hj
  · refine ⟨rfl, rfl, fun i d hi => ?_, fun t _ => rfl⟩
    exfalso
    simp only [Array.getD_eq_getD_getElem?, Array.getElem?_replicate] at hi
    split at hi <;> cases hi
/-! the steps -/
theorem Seq.nil {a : Act} (h : ∀ w, S w → Q .normal a w) : Seq P ops Q S [] a := h
/-- what yields -/
theorem Seq.light {o : Oper} {rest : List Oper} {a : Act} {v : Value} (hw : Region.wanted o (yielded ops a.tmps) = true) (hv : ∀ w, S w → (execOp a.eval o).run P w = .ok (.value v) w) (h : Seq P ops Q S rest (a.put o.dst v)) :
    Seq P ops Q S (o :: rest) a := ⟨v, .inl ⟨hw, fun w hS => by unfold Does; rw [hv w hS]; exact ⟨rfl, hS⟩⟩, h⟩
/-- what is not wanted -/
theorem Seq.skip {o : Oper} {rest : List Oper} {a : Act} (hw : Region.wanted o (yielded ops a.tmps) = false) (h : Seq P ops Q S rest (a.put o.dst undef)) :
    Seq P ops Q S (o :: rest) a := ⟨undef, .inr ⟨hw, rfl⟩, h⟩
/-- a call -/
theorem Seq.call {o : Oper} {rest : List Oper} {a : Act} {f : FuncId} {args : Array Value} (v : Value) (hw : Region.wanted o (yielded ops a.tmps) = true) (hv : ∀ w, S w → (execOp a.eval o).run P w = .ok (.enter f args) w)
    (hc : ∀ w, S w → Calls P f args w fun e w' => e = .returned v ∧ S w') (h : Seq P ops Q S rest (a.put o.dst v)) :
    Seq P ops Q S (o :: rest) a := ⟨v, .inl ⟨hw, fun w hS => by unfold Does; rw [hv w hS]; exact hc w hS⟩, h⟩
end
/-! ### The same with barriers: an operation whose value is not known ahead, or that changes what is known of the world -/
section
variable {P : Program} {ops : Array Oper} {Q : Exit → Act → World → Prop}
def isCall (o : Oper) : Bool := match o.op with | .call { callee := .value _, .. } => true | _ => false
/-- what is known ahead -/
def Det (P : Program) (ops : Array Oper) (S : World → Prop) (o : Oper) (a : Act) (v : Value) : Prop :=
  (Region.wanted o (yielded ops a.tmps) = true ∧ ∀ w, S w → (execOp a.eval o).run P w = .ok (.value v) w) ∨
  (Region.wanted o (yielded ops a.tmps) = false ∧ v = undef) ∨
  (isCall o = true ∧ Region.wanted o (yielded ops a.tmps) = true ∧ ∀ w, S w → Does P o a v S w)
/-- an operation comes to a value of which something is known -/
def Doesv (P : Program) (o : Oper) (a : Act) (R : Value → World → Prop) (w : World) : Prop :=
  match (execOp a.eval o).run P w with
  | .ok (.value u) w' => R u w'
  | .ok .skip w' => R undef w'
  | .ok (.enter f args) w' => Calls P f args w' fun e w'' => ∃ v, e = .returned v ∧ R v w''
  | _ => False
/-- all behind wait for it; all calls ahead are through -/
def wall (ops : Array Oper) (k : Nat) : Bool :=
  (List.range ops.size).all fun j => match ops[j]? with
    | none => true
    | some o => (!decide (k < j) || pre (Region.before ops) j k) && (!(decide (j < k) && isCall o) || pre (Region.before ops) k j)
def fullWall (ops : Array Oper) (k : Nat) : Bool := (List.range ops.size).all fun j => !decide (j < k) || pre (Region.before ops) k j
def Node (P : Program) (ops : Array Oper) (o : Oper) (k : Nat) (a : Act) (S : World → Prop) (next : Act → (World → Prop) → Prop) : Prop :=
  wall ops k = true ∧ Region.wanted o (yielded ops a.tmps) = true ∧ ∃ (V : Value → Prop) (S' : Value → World → Prop), (∀ w, S w → Doesv P o a (fun v w' => V v ∧ S' v w') w) ∧
    ((∀ v w, S' v w → S w) ∨ fullWall ops k = true) ∧ ∀ v, V v → next (a.put o.dst v) (S' v)
def Seqw (P : Program) (ops : Array Oper) (Q : Exit → Act → World → Prop) : List Oper → Nat → Act → (World → Prop) → Prop
  | [], _, a, S => ∀ w, S w → Q .normal a w
  | o :: rest, k, a, S => (∃ v, Det P ops S o a v ∧ Seqw P ops Q rest (k + 1) (a.put o.dst v) S) ∨ Node P ops o k a S (fun a' S' => Seqw P ops Q rest (k + 1) a' S')
/-- at its end, or at a wall -/
def Stop (P : Program) (ops : Array Oper) (Q : Exit → Act → World → Prop) : List Oper → Nat → Act → (World → Prop) → Prop
  | [], _, a, S => ∀ w, S w → Q .normal a w
  | o :: rest, k, a, S => Node P ops o k a S (fun a' S' => Seqw P ops Q rest (k + 1) a' S')
theorem Doesv.wp {o : Oper} {a b : Act} {R : Value → World → Prop} {w : World} (h : Doesv P o a R w) (he : execOp b.eval o = execOp a.eval o) {K : Act → World → Prop} (hK : ∀ v w', R v w' → K (b.put o.dst v) w') :
    o.wp P b w K Q := by
  unfold Oper.wp
  unfold Doesv at h
  rw [he]
  generalize (execOp a.eval o).run P w = r at h
  cases r with
  | halt x w' => exact h.elim
  | ok n w' =>
    cases n with
    | value u => exact hK _ _ h
    | skip => exact hK _ _ h
    | enter f args =>
      refine Calls.mono h fun e w'' hh => ?_
      obtain ⟨v, rfl, hs⟩ := hh
      exact hK _ _ hs
    | defer d => exact h.elim
    | row r args => exact h.elim
    | _ => exact h.elim
theorem norm : ∀ (l : List Oper) (k : Nat) (a : Act) (S : World → Prop) (v : Nat → Value) (b : Nat → Act), l = ops.toList.drop k → k ≤ ops.size → b k = a → Seqw P ops Q l k a S →
    ∃ (m : Nat) (v' : Nat → Value) (b' : Nat → Act), k ≤ m ∧ m ≤ ops.size ∧ (∀ i, i < k → v' i = v i) ∧ (∀ i, i ≤ k → b' i = b i) ∧ (∀ i o, k ≤ i → i < m → ops[i]? = some o → b' (i + 1) = (b' i).put o.dst (v' i) ∧ Det P ops S o (b' i) (v' i)) ∧ Stop P ops Q (ops.toList.drop m) m (b' m) S
  | [], k, a, S, v, b, hl, hk, hb, h => ⟨k, v, b, Nat.le_refl _, hk, fun _ _ => rfl, fun _ _ => rfl, fun i o h1 h2 => by omega, by rw [← hl, hb]; exact h⟩
  | o :: rest, k, a, S, v, b, hl, hk, hb, h => by
    have hlt : k < ops.size := by
      rcases Nat.lt_or_ge k ops.size with h' | h'
      · exact h'
      · rw [List.drop_eq_nil_of_le (by simpa using h')] at hl; cases hl
    have hdr : ops.toList.drop k = ops[k] :: ops.toList.drop (k + 1) := by rw [List.drop_eq_getElem_cons (by simpa using hlt)]; simp
    rw [hdr] at hl
    simp only [List.cons.injEq] at hl
    obtain ⟨ho, hl⟩ := hl
    have hok : ops[k]? = some o := by rw [ho, Array.getElem?_eq_getElem hlt]
    rcases h with ⟨u, hd, hr⟩ | h
    · obtain ⟨m, v', b', h1, h2, h3, h4, h5, h6⟩ := norm rest (k + 1) _ S (fun i => if i = k then u else v i) (fun i => if i = k + 1 then a.put o.dst u else b i) hl hlt (by simp) hr
      have hvk : v' k = u := by rw [h3 k (by omega)]; simp
      have hbk : b' k = a := by rw [h4 k (by omega)]; simp [hb]
      refine ⟨m, v', b', by omega, h2, fun i hi => ?_, fun i hi => ?_, fun i o' hi1 hi2 ho' => ?_, h6⟩
      · rw [h3 i (by omega), if_neg (by omega)]
      · rw [h4 i (by omega), if_neg (by omega)]
      · by_cases hik : i = k
        · subst hik
          rw [hok] at ho'; cases ho'
          rw [h4 (i + 1) (by omega), if_pos rfl, hbk, hvk]
          exact ⟨rfl, hd⟩
        · exact h5 i o' (by omega) hi2 ho'
    · refine ⟨k, v, b, Nat.le_refl _, hk, fun _ _ => rfl, fun _ _ => rfl, fun i o h1 h2 => by omega, ?_⟩
      rw [hdr, hb]
      have : ops[k] = o := ho.symm
      rw [this, ← hl]
      exact h
theorem Left.prefix' {a0 : Act} {v : Nat → Value} {b : Nat → Act} {m : Nat} (h0 : b 0 = a0) (h1 : ∀ i o, i < m → ops[i]? = some o → b (i + 1) = (b i).put o.dst (v i)) {B : Array Nat} (ht : tmpOk ops B a0.tmps.size = true) :
    ∀ k, k ≤ m → m ≤ ops.size → Left ops a0 v (fun i => i < k) (b k)
  | 0, _, _ => by rw [h0]; exact ⟨rfl, rfl, fun i d hi => by omega, fun t _ => rfl⟩
  | k + 1, hk, hm => by
    have ih := Left.prefix' h0 h1 ht k (by omega) hm
    obtain ⟨o, ho⟩ : ∃ o, ops[k]? = some o := ⟨_, Array.getElem?_eq_some_iff.2 ⟨by omega, rfl⟩⟩
    obtain ⟨t1, t2, t3⟩ := tmpOk_spec ht ho
    have := ih.next ho t1 (fun i d hij hd => (t3 i d hij hd).1)
    rw [h1 k o (by omega) ho]
    refine ⟨this.defers, this.size, fun i d hi => this.put i d (by omega), fun t hh => this.old t (fun i hi => hh i (by omega))⟩
theorem wall_spec {k : Nat} (h : wall ops k = true) {j : Nat} {o : Oper} (ho : ops[j]? = some o) : (k < j → pre (Region.before ops) j k = true) ∧ (j < k → isCall o = true → pre (Region.before ops) k j = true) := by
  have hj : j < ops.size := (Array.getElem?_eq_some_iff.1 ho).1
  have h1 := List.all_eq_true.1 h j (List.mem_range.2 hj)
  simp only [ho, Bool.and_eq_true, Bool.or_eq_true, Bool.not_eq_true', decide_eq_false_iff_not] at h1
  refine ⟨fun hkj => h1.1.resolve_left (fun h => h hkj), fun hjk hc => ?_⟩
  rcases h1.2 with h2 | h2
  · simp [hjk, hc] at h2
  · exact h2
theorem Left.congr {a0 a : Act} {v v' : Nat → Value} {L L' : Nat → Prop} (h : Left ops a0 v L a) (hL : ∀ i, L' i ↔ L i) (hv : ∀ i, L i → v' i = v i) : Left ops a0 v' L' a :=
  ⟨h.defers, h.size, fun i d hi hd => by rw [hv i ((hL i).1 hi)]; exact h.put i d ((hL i).1 hi) hd, fun t ht => h.old t (fun i hi => ht i ((hL i).2 hi))⟩
/-- where a drawn region stands -/
def Inv (P : Program) (ops : Array Oper) (Q : Exit → Act → World → Prop) (a0 : Act) (L : Nat → Prop) (a : Act) (w : World) : Prop :=
  ∃ (m : Nat) (v : Nat → Value) (b : Nat → Act) (S : World → Prop), S w ∧ m ≤ ops.size ∧ b 0 = a0 ∧ (∀ i o, i < m → ops[i]? = some o → b (i + 1) = (b i).put o.dst (v i)) ∧
    (∀ i o, i < m → ¬ L i → ops[i]? = some o → Det P ops S o (b i) (v i)) ∧ Stop P ops Q (ops.toList.drop m) m (b m) S ∧ (∀ i, L i → i < m) ∧ Left ops a0 v L a
theorem any_of_seqw {a0 : Act} (hp : preOk ops (Region.before ops) = true) (ht : tmpOk ops (Region.before ops) a0.tmps.size = true) :
    ∀ (fuel : Nat) (listed : Array Bool) (a : Act) (w : World), listed.size = ops.size → listed.toList.count false ≤ fuel → Closed ops (fun i => listed.getD i false = true) →
      Inv P ops Q a0 (fun i => listed.getD i false = true) a w → wpAny P .any ops Q fuel listed a w := by
  have hgd : ∀ (listed : Array Bool) (j : Nat), listed.getD j true = false → listed.getD j false = false := by
    intro listed j h
    simp only [Array.getD_eq_getD_getElem?] at h ⊢
    cases hx : listed[j]? with
    | none => rw [hx] at h; cases h
    | some x => rw [hx] at h; exact h
  have hdl : ∀ i d, dstOf ops i = some d → i < ops.size := by
    intro i d hd
    unfold dstOf at hd
    rcases Nat.lt_or_ge i ops.size with h' | h'
    · exact h'
    · rw [Array.getElem?_eq_none h'] at hd; cases hd
  have hend : ∀ (listed : Array Bool) (a : Act) (w : World), listed.size = ops.size → Inv P ops Q a0 (fun i => listed.getD i false = true) a w → Region.ready .any ops listed = [] → Q .normal a w := by
    intro listed a w hsz hI hr
    have hall : ∀ m i, i < m → i < ops.size → listed.getD i false = true := by
      intro m
      induction m with
      | zero => intro i hi; omega
      | succ m ih =>
        intro i hi his
        cases hx : listed.getD i false with
        | true => rfl
        | false =>
          exfalso
          obtain ⟨o, ho⟩ : ∃ o, ops[i]? = some o := ⟨_, Array.getElem?_eq_some_iff.2 ⟨his, rfl⟩⟩
          have : i ∈ Region.ready .any ops listed := mem_ready.2 ⟨by
            simp only [Array.getD_eq_getD_getElem?] at hx ⊢
            rw [Array.getElem?_eq_getElem (by omega)] at hx ⊢
            exact hx, o, ho, fun e he hb => by
              have := (preOk_spec hp ho).1 e he hb
              exact ih e.on (by omega) (by omega)⟩
          rw [hr] at this
          cases this
    obtain ⟨m, v, b, S, hS, hm, h0, h1, h2, h3, h4, h5⟩ := hI
    have hmn : m = ops.size := by
      rcases Nat.lt_or_ge m ops.size with h | h
      · have := h4 m (hall (m + 1) m (by omega) h); omega
      · omega
    subst hmn
    have : a = b ops.size := by
      have hf := Left.prefix' h0 h1 ht ops.size (Nat.le_refl _) (Nat.le_refl _)
      refine act_ext (h5.defers.trans hf.defers.symm) fun t => h5.agree hf fun i hd => ?_
      have hi := hdl i t hd
      exact ⟨fun _ => hi, fun _ => hall (i + 1) i (by omega) hi⟩
    rw [this]
    rw [List.drop_eq_nil_of_le (by simp)] at h3
    exact h3 w hS
  intro fuel
  induction fuel with
  | zero =>
    intro listed a w hsz hc hcl hI
    have hr : Region.ready .any ops listed = [] := by
      apply List.eq_nil_iff_forall_not_mem.2
      intro j hj
      have h0 := (mem_ready.1 hj).1
      have := count_set h0
      omega
    exact ⟨hr, hend listed a w hsz hI hr⟩
  | succ fuel ih =>
    intro listed a w hsz hc hcl hI
    refine ⟨hend listed a w hsz hI, fun j hj => ?_⟩
    obtain ⟨m, v, b, S, hS, hm, h0, h1, h2, h3, h4, h5⟩ := hI
    obtain ⟨hun, o, ho, hall⟩ := mem_ready.1 hj
    have hunf := hgd _ _ hun
    have hjs : j < ops.size := (Array.getElem?_eq_some_iff.1 ho).1
    obtain ⟨t1, t2, t3⟩ := tmpOk_spec ht ho
    have hget : ∀ i, (listed.setIfInBounds j true).getD i false = true ↔ (listed.getD i false = true ∨ i = j) := by
      intro i
      simp only [Array.getD_eq_getD_getElem?, Array.getElem?_setIfInBounds]
      by_cases hij : j = i
      · subst hij
        rw [if_pos rfl, if_pos (by omega)]; simp
      · rw [if_neg hij]
        exact ⟨.inl, fun h => h.resolve_right (fun e => hij e.symm)⟩
    have hcl' : Closed ops (fun i => (listed.setIfInBounds j true).getD i false = true) := by
      intro k ok hok hk e he hb
      rw [hget] at hk ⊢
      rcases hk with hk | rfl
      · exact .inl (hcl k ok hok hk e he hb)
      · rw [ho] at hok; cases hok
        exact .inl (hall e he hb)
    have hpl : ∀ i, i < ops.size → pre (Region.before ops) j i = true → listed.getD i false = true := fun i his hpre => pre_in hp hcl (j + 1) j o (by omega) ho hall i his hpre
    have hjm : j ≤ m := by
      rcases Nat.lt_or_ge m j with h | h
      · exfalso
        have hms : m < ops.size := by omega
        have hdr : ops.toList.drop m = ops[m] :: ops.toList.drop (m + 1) := by rw [List.drop_eq_getElem_cons (by simpa using hms)]; simp
        rw [hdr] at h3
        have := h4 m (hpl m hms ((wall_spec h3.1 ho).1 h))
        omega
      · exact h
    have hsame := exec_same (ops := ops) t2 (a := a) (b := b j) (fun t htl => h5.agree (Left.prefix' h0 h1 ht j hjm hm) fun i hd => by
      by_cases hij : i = j
      · subst hij
        refine ⟨fun h => ?_, fun h => by omega⟩
        rw [hunf] at h; cases h
      · have his := hdl i t hd
        rcases (t3 i t hij hd).2 htl with ⟨hlt, hpre⟩ | ⟨hlt, hpre⟩
        · exact ⟨fun _ => hlt, fun _ => hpl i his hpre⟩
        · refine ⟨fun h => ?_, fun h => by omega⟩
          exfalso
          obtain ⟨oi, hoi⟩ : ∃ oi, ops[i]? = some oi := ⟨_, Array.getElem?_eq_some_iff.2 ⟨his, rfl⟩⟩
          have := pre_in hp hcl (i + 1) i oi (by omega) hoi (fun e he hb => hcl i oi hoi h e he hb) j hjs hpre
          rw [hunf] at this; cases this)
    unfold wpOp
    simp only [ho]
    rcases Nat.lt_or_ge j m with hlt | hge
    · -- known ahead
      have hnj : ¬ listed.getD j false = true := by rw [hunf]; simp
      have hdet := h2 j o hlt hnj ho
      have hgo : ∀ w', S w' → wpAny P .any ops Q fuel (listed.setIfInBounds j true) (a.put o.dst (v j)) w' := by
        intro w' hS'
        refine ih _ _ w' (by simp [hsz]) (by have := count_set hun; omega) hcl' ⟨m, v, b, S, hS', hm, h0, h1, fun i oi hi hL => h2 i oi hi (fun h => hL ((hget i).2 (.inl h))), h3, fun i hi => ?_, ?_⟩
        · rcases (hget i).1 hi with h | rfl
          · exact h4 i h
          · exact hlt
        · exact (h5.next ho t1 (fun i d hij hd => (t3 i d hij hd).1)).congr hget (fun _ _ => rfl)
      rcases hdet with ⟨hw, hd⟩ | ⟨hw, hv⟩ | ⟨_, hw, hd⟩
      · rw [hsame.2, hw, if_pos rfl]
        refine .inl ?_
        unfold Oper.wp
        rw [hsame.1, hd w hS]
        exact hgo w hS
      · rw [hsame.2, hw, if_neg (by simp)]
        rw [← hv]; exact hgo w hS
      · rw [hsame.2, hw, if_pos rfl]
        exact .inl ((hd w hS).wp hsame.1 hgo)
    · -- the wall
      obtain rfl : j = m := by omega
      have hdr : ops.toList.drop j = o :: ops.toList.drop (j + 1) := by
        rw [List.drop_eq_getElem_cons (by simpa using hjs)]
        have : ops[j] = o := by rw [Array.getElem?_eq_getElem hjs] at ho; exact Option.some.inj ho
        simp [this]
      rw [hdr] at h3
      obtain ⟨hwall, hw, V, S', hd, hS', hnext⟩ := h3
      rw [hsame.2, hw, if_pos rfl]
      refine .inl ((hd w hS).wp hsame.1 fun u w' hu => ?_)
      obtain ⟨hV, hSu⟩ := hu
      obtain ⟨m', v', b', n1, n2, n3, n4, n5, n6⟩ := norm (ops.toList.drop (j + 1)) (j + 1) ((b j).put o.dst u) (S' u) (fun i => if i = j then u else v i) (fun i => if i = j + 1 then (b j).put o.dst u else b i) rfl hjs (by simp) (hnext u hV)
      have hvj : v' j = u := by rw [n3 j (by omega)]; simp
      have hbs : ∀ i, i ≤ j → b' i = b i := fun i hi => by rw [n4 i (by omega), if_neg (by omega)]
      have hvs : ∀ i, i < j → v' i = v i := fun i hi => by rw [n3 i (by omega), if_neg (by omega)]
      have hbj : b' (j + 1) = (b j).put o.dst u := by rw [n4 (j + 1) (by omega), if_pos rfl]
      refine ih _ _ w' (by simp [hsz]) (by have := count_set hun; omega) hcl' ⟨m', v', b', S' u, hSu, n2, by rw [hbs 0 (by omega)]; exact h0, fun i oi hi hoi => ?_, fun i oi hi hL hoi => ?_, n6, fun i hi => ?_, ?_⟩
      · rcases Nat.lt_trichotomy i j with h | h | h
        · rw [hbs (i + 1) (by omega), hbs i (by omega), hvs i h]; exact h1 i oi h hoi
        · subst h; rw [ho] at hoi; cases hoi; rw [hbj, hbs i (by omega), hvj]
        · exact (n5 i oi (by omega) hi hoi).1
      · rcases Nat.lt_trichotomy i j with h | h | h
        · have hnl : ¬ listed.getD i false = true := fun h' => hL ((hget i).2 (.inl h'))
          have hD := h2 i oi h hnl hoi
          rw [hbs i (by omega), hvs i h]
          rcases hS' with hS' | hfull
          · rcases hD with ⟨d1, d2⟩ | hD | ⟨hc, _, _⟩
            · exact .inl ⟨d1, fun w hw => d2 w (hS' u w hw)⟩
            · exact .inr (.inl hD)
            · exact absurd (hpl i (by omega) ((wall_spec hwall hoi).2 h hc)) hnl
          · have := List.all_eq_true.1 hfull i (List.mem_range.2 (by omega))
            simp only [Bool.or_eq_true, Bool.not_eq_true', decide_eq_false_iff_not] at this
            exact absurd (hpl i (by omega) (this.resolve_left (fun h' => h' h))) hnl
        · exact absurd ((hget i).2 (.inr h)) hL
        · exact (n5 i oi (by omega) hi hoi).2
      · rcases (hget i).1 hi with h | rfl
        · have := h4 i h; omega
        · omega
      · have hn := h5.next ho t1 (fun i d hij hd => (t3 i d hij hd).1)
        have hL1 : Left ops a0 v' (fun i => listed.getD i false = true) a := h5.congr (fun _ => Iff.rfl) (fun i hi => hvs i (h4 i hi))
        have hL2 := hL1.next ho t1 (fun i d hij hd => (t3 i d hij hd).1)
        rw [hvj] at hL2
        exact hL2.congr hget (fun _ _ => rfl)
/-- **A drawn region in the order of its text, with walls.** -/
theorem wp_region_seqw {id : Nat} {a : Act} {w : World} {S : World → Prop} (hm : P.follows .mixedOrders = true) (hok : seqOk ops a.tmps.size = true) (hS : S w.drew) (h : Seqw P ops Q ops.toList 0 a S) :
    (Code.region id ops true).wp P Q a w := by
  unfold seqOk at hok
  rw [Bool.and_eq_true] at hok
  have hf : ∀ i, ¬ (Array.replicate ops.size false).getD i false = true := by
    intro i hj
    simp only [Array.getD_eq_getD_getElem?, Array.getElem?_replicate] at hj
    split at hj <;> cases hj
  obtain ⟨m, v, b, n1, n2, n3, n4, n5, n6⟩ := norm ops.toList 0 a S (fun _ => undef) (fun _ => a) (by simp) (by omega) rfl h
  refine wp_region_any hm (any_of_seqw hok.1 hok.2 _ _ a _ (by simp) (by simp) (fun j o ho hj => absurd hj (hf j)) ⟨m, v, b, S, hS, n2, n4 0 (by omega), fun i o hi ho => (n5 i o (by omega) hi ho).1, fun i o hi _ ho => (n5 i o (by omega) hi ho).2, n6, fun i hi => absurd hi (hf i), ?_⟩)
  exact ⟨rfl, rfl, fun i d hi => absurd hi (hf i), fun t _ => rfl⟩
/-! the steps -/
variable {S : World → Prop}
theorem Seqw.nil {a : Act} {k : Nat} (h : ∀ w, S w → Q .normal a w) : Seqw P ops Q [] k a S := h
theorem Seqw.light {o : Oper} {rest : List Oper} {k : Nat} {a : Act} {v : Value} (hw : Region.wanted o (yielded ops a.tmps) = true) (hv : ∀ w, S w → (execOp a.eval o).run P w = .ok (.value v) w) (h : Seqw P ops Q rest (k + 1) (a.put o.dst v) S) :
    Seqw P ops Q (o :: rest) k a S := .inl ⟨v, .inl ⟨hw, hv⟩, h⟩
theorem Seqw.skip {o : Oper} {rest : List Oper} {k : Nat} {a : Act} (hw : Region.wanted o (yielded ops a.tmps) = false) (h : Seqw P ops Q rest (k + 1) (a.put o.dst undef) S) :
    Seqw P ops Q (o :: rest) k a S := .inl ⟨undef, .inr (.inl ⟨hw, rfl⟩), h⟩
theorem Seqw.call {o : Oper} {rest : List Oper} {k : Nat} {a : Act} {f : FuncId} {args : Array Value} (v : Value) (hc : isCall o = true) (hw : Region.wanted o (yielded ops a.tmps) = true) (hv : ∀ w, S w → (execOp a.eval o).run P w = .ok (.enter f args) w)
    (hcall : ∀ w, S w → Calls P f args w fun e w' => e = .returned v ∧ S w') (h : Seqw P ops Q rest (k + 1) (a.put o.dst v) S) :
    Seqw P ops Q (o :: rest) k a S := .inl ⟨v, .inr (.inr ⟨hc, hw, fun w hS => by unfold Does; rw [hv w hS]; exact hcall w hS⟩), h⟩
/-- a call whose value is not known ahead: a wall -/
theorem Seqw.callw {o : Oper} {rest : List Oper} {k : Nat} {a : Act} {f : FuncId} {args : Array Value} (V : Value → Prop) (S' : Value → World → Prop) (hk : wall ops k = true) (hw : Region.wanted o (yielded ops a.tmps) = true) (hv : ∀ w, S w → (execOp a.eval o).run P w = .ok (.enter f args) w)
    (hcall : ∀ w, S w → Calls P f args w fun e w' => ∃ v, e = .returned v ∧ V v ∧ S' v w') (hS' : (∀ v w, S' v w → S w) ∨ fullWall ops k = true) (h : ∀ v, V v → Seqw P ops Q rest (k + 1) (a.put o.dst v) (S' v)) :
    Seqw P ops Q (o :: rest) k a S := .inr ⟨hk, hw, V, S', fun w hS => by unfold Doesv; rw [hv w hS]; exact hcall w hS, hS', h⟩
/-- an operation of its own (an alloc, a store, a builtin) that is a wall -/
theorem Seqw.opw {o : Oper} {rest : List Oper} {k : Nat} {a : Act} (V : Value → Prop) (S' : Value → World → Prop) (hk : wall ops k = true) (hw : Region.wanted o (yielded ops a.tmps) = true) (hv : ∀ w, S w → ∃ v w', (execOp a.eval o).run P w = .ok (.value v) w' ∧ V v ∧ S' v w')
    (hS' : (∀ v w, S' v w → S w) ∨ fullWall ops k = true) (h : ∀ v, V v → Seqw P ops Q rest (k + 1) (a.put o.dst v) (S' v)) :
    Seqw P ops Q (o :: rest) k a S := .inr ⟨hk, hw, V, S', fun w hS => by obtain ⟨v, w', h1, h2⟩ := hv w hS; unfold Doesv; rw [h1]; exact h2, hS', h⟩
end
end Go.Proofs.YtcioejacijkbcaaGreatDoor.Rg
