/- A region that draws its order, walked in an order of one's own, with walls. No condition. -/
import Derived.Test.YtcioejacijkbcaaGreatDoorRg
namespace Go.Proofs.YtcioejacijkbcaaGreatDoor.Rg
set_option linter.unusedVariables false
section
variable {P : Program} {ops : Array Oper} {Q : Exit → Act → World → Prop} {σ : List Nat}
/-- the operation at a place of the order -/
def ix (σ : List Nat) (p : Nat) : Nat := σ.getD p 0
def ordOk (ops : Array Oper) (σ : List Nat) (B : Array Nat) : Bool :=
  (List.range ops.size).all (fun i => (List.range σ.length).any fun p => ix σ p == i) && σ.all (fun i => decide (i < ops.size)) &&
  (List.range σ.length).all fun q => (List.range q).all fun p => ix σ p != ix σ q && !pre B (ix σ p) (ix σ q)
def tmpOko (ops : Array Oper) (B : Array Nat) (n : Nat) : Bool :=
  (List.range ops.size).all fun j => match ops[j]? with
    | none => true
    | some o =>
      (match o.dst with | none => true | some d => decide (d < n)) &&
      (match o.op with | .select .. => false | _ => true) &&
      (List.range ops.size).all fun i => i == j || match dstOf ops i with
        | none => true
        | some d => o.dst != some d && (!(o.looksAt ops).contains d || pre B j i || pre B i j)
def seqOko (ops : Array Oper) (σ : List Nat) (n : Nat) : Bool := preOk ops (Region.before ops) && tmpOko ops (Region.before ops) n && ordOk ops σ (Region.before ops)
theorem tmpOko_spec {B : Array Nat} {n : Nat} (h : tmpOko ops B n = true) {j : Nat} {o : Oper} (ho : ops[j]? = some o) :
    (∀ d, o.dst = some d → d < n) ∧ (∀ cs b, o.op ≠ .select cs b) ∧ ∀ i d, i ≠ j → dstOf ops i = some d → o.dst ≠ some d ∧ (d ∈ o.looksAt ops → pre B j i = true ∨ pre B i j = true) := by
  unfold tmpOko at h
  have hj : j < ops.size := (Array.getElem?_eq_some_iff.1 ho).1
  have h1 := List.all_eq_true.1 h j (List.mem_range.2 hj)
  simp only [ho, Bool.and_eq_true] at h1
  obtain ⟨⟨h1, h2⟩, h3⟩ := h1
  refine ⟨fun d hd => by simpa [hd] using h1, fun cs b hs => (by rw [hs] at h2; cases h2), fun i d hij hd => ?_⟩
  have hi : i < ops.size := by
    unfold dstOf at hd
    rcases Nat.lt_or_ge i ops.size with h' | h'
    · exact h'
    · rw [Array.getElem?_eq_none h'] at hd; cases hd
  have := List.all_eq_true.1 h3 i (List.mem_range.2 hi)
  simp only [beq_eq_false_iff_ne.2 hij, Bool.false_or, hd, Bool.and_eq_true, bne_iff_ne, Bool.or_eq_true, Bool.not_eq_true', List.contains_eq_mem, decide_eq_false_iff_not] at this
  refine ⟨this.1, fun hm => ?_⟩
  rcases this.2 with (h4 | h4) | h4
  · exact absurd hm h4
  · exact .inl h4
  · exact .inr h4
structure Ord (ops : Array Oper) (σ : List Nat) : Prop where
  all : ∀ i, i < ops.size → ∃ p, p < σ.length ∧ ix σ p = i
  lt : ∀ p, p < σ.length → ix σ p < ops.size
  ne : ∀ p q, p < q → q < σ.length → ix σ p ≠ ix σ q
  ext : ∀ p q, p < q → q < σ.length → pre (Region.before ops) (ix σ p) (ix σ q) = false
theorem ordOk_spec (h : ordOk ops σ (Region.before ops) = true) : Ord ops σ := by
  unfold ordOk at h
  rw [Bool.and_eq_true, Bool.and_eq_true] at h
  obtain ⟨⟨h1, h2⟩, h3⟩ := h
  have h3' : ∀ p q, p < q → q < σ.length → ix σ p ≠ ix σ q ∧ pre (Region.before ops) (ix σ p) (ix σ q) = false := fun p q hpq hq => by
    have := List.all_eq_true.1 (List.all_eq_true.1 h3 q (List.mem_range.2 hq)) p (List.mem_range.2 hpq)
    simpa using this
  refine ⟨fun i hi => ?_, fun p hp => ?_, fun p q a b => (h3' p q a b).1, fun p q a b => (h3' p q a b).2⟩
  · obtain ⟨p, hp, he⟩ := List.any_eq_true.1 (List.all_eq_true.1 h1 i (List.mem_range.2 hi))
    exact ⟨p, List.mem_range.1 hp, by simpa using he⟩
  · have : ix σ p ∈ σ := by unfold ix; rw [List.getD_eq_getElem?_getD, List.getElem?_eq_getElem hp]; simp
    simpa using List.all_eq_true.1 h2 _ this
def wallo (ops : Array Oper) (σ : List Nat) (m : Nat) : Bool :=
  (List.range σ.length).all fun q => match ops[ix σ q]? with
    | none => true
    | some o => (!decide (m < q) || pre (Region.before ops) (ix σ q) (ix σ m)) && (!(decide (q < m) && isCall o) || pre (Region.before ops) (ix σ m) (ix σ q))
def fullWallo (ops : Array Oper) (σ : List Nat) (m : Nat) : Bool := (List.range σ.length).all fun q => !decide (q < m) || pre (Region.before ops) (ix σ m) (ix σ q)
def Nodeo (P : Program) (ops : Array Oper) (σ : List Nat) (o : Oper) (m : Nat) (a : Act) (S : World → Prop) (next : Act → (World → Prop) → Prop) : Prop :=
  wallo ops σ m = true ∧ Region.wanted o (yielded ops a.tmps) = true ∧ ∃ (V : Value → Prop) (S' : Value → World → Prop), (∀ w, S w → Doesv P o a (fun v w' => V v ∧ S' v w') w) ∧
    ((∀ v w, S' v w → S w) ∨ fullWallo ops σ m = true) ∧ ∀ v, V v → next (a.put o.dst v) (S' v)
def Seqo (P : Program) (ops : Array Oper) (Q : Exit → Act → World → Prop) (σ : List Nat) : List Nat → Nat → Act → (World → Prop) → Prop
  | [], _, a, S => ∀ w, S w → Q .normal a w
  | i :: rest, m, a, S => ∃ o, ops[i]? = some o ∧ ((∃ v, Det P ops S o a v ∧ Seqo P ops Q σ rest (m + 1) (a.put o.dst v) S) ∨ Nodeo P ops σ o m a S (fun a' S' => Seqo P ops Q σ rest (m + 1) a' S'))
def Stopo (P : Program) (ops : Array Oper) (Q : Exit → Act → World → Prop) (σ : List Nat) : List Nat → Nat → Act → (World → Prop) → Prop
  | [], _, a, S => ∀ w, S w → Q .normal a w
  | i :: rest, m, a, S => ∃ o, ops[i]? = some o ∧ Nodeo P ops σ o m a S (fun a' S' => Seqo P ops Q σ rest (m + 1) a' S')
theorem ix_at {p : Nat} (hp : p < σ.length) : σ.drop p = ix σ p :: σ.drop (p + 1) := by
  rw [List.drop_eq_getElem_cons hp]
  unfold ix
  rw [List.getD_eq_getElem?_getD, List.getElem?_eq_getElem hp]
  rfl
theorem normo (hO : Ord ops σ) : ∀ (l : List Nat) (k : Nat) (a : Act) (S : World → Prop) (v : Nat → Value) (b : Nat → Act), l = σ.drop k → k ≤ σ.length → b k = a → Seqo P ops Q σ l k a S →
    ∃ (m : Nat) (v' : Nat → Value) (b' : Nat → Act), k ≤ m ∧ m ≤ σ.length ∧ (∀ p, p < k → v' (ix σ p) = v (ix σ p)) ∧ (∀ p, p ≤ k → b' p = b p) ∧
      (∀ p o, k ≤ p → p < m → ops[ix σ p]? = some o → b' (p + 1) = (b' p).put o.dst (v' (ix σ p)) ∧ Det P ops S o (b' p) (v' (ix σ p))) ∧ Stopo P ops Q σ (σ.drop m) m (b' m) S
  | [], k, a, S, v, b, hl, hk, hb, h => ⟨k, v, b, Nat.le_refl _, hk, fun _ _ => rfl, fun _ _ => rfl, fun p o h1 h2 => by omega, by rw [← hl, hb]; exact h⟩
  | i :: rest, k, a, S, v, b, hl, hk, hb, h => by
    have hlt : k < σ.length := by
      rcases Nat.lt_or_ge k σ.length with h' | h'
      · exact h'
      · rw [List.drop_eq_nil_of_le h'] at hl; cases hl
    have hdr := ix_at hlt
    rw [hdr] at hl
    simp only [List.cons.injEq] at hl
    obtain ⟨hi, hl⟩ := hl
    obtain ⟨o, ho, h⟩ := h
    rw [hi] at ho
    rcases h with ⟨u, hd, hr⟩ | h
    · obtain ⟨m, v', b', h1, h2, h3, h4, h5, h6⟩ := normo hO rest (k + 1) _ S (fun j => if j = ix σ k then u else v j) (fun p => if p = k + 1 then a.put o.dst u else b p) hl hlt (by simp) hr
      have hvk : v' (ix σ k) = u := by rw [h3 k (by omega)]; simp
      have hbk : b' k = a := by rw [h4 k (by omega)]; simp [hb]
      refine ⟨m, v', b', by omega, h2, fun p hp => ?_, fun p hp => ?_, fun p o' hp1 hp2 ho' => ?_, h6⟩
      · rw [h3 p (by omega), if_neg (hO.ne p k hp hlt)]
      · rw [h4 p (by omega), if_neg (by omega)]
      · by_cases hpk : p = k
        · subst hpk
          rw [ho] at ho'; cases ho'
          rw [h4 (p + 1) (by omega), if_pos rfl, hbk, hvk]
          exact ⟨rfl, hd⟩
        · exact h5 p o' (by omega) hp2 ho'
    · refine ⟨k, v, b, Nat.le_refl _, hk, fun _ _ => rfl, fun _ _ => rfl, fun p o h1 h2 => by omega, ?_⟩
      rw [hdr, hb, ← hl]
      exact ⟨o, ho, h⟩
/-- the first m operations of the order -/
def First (σ : List Nat) (m : Nat) (i : Nat) : Prop := ∃ p, p < m ∧ ix σ p = i
theorem Left.prefixo (hO : Ord ops σ) {a0 : Act} {v : Nat → Value} {b : Nat → Act} {m : Nat} (h0 : b 0 = a0) (hm : m ≤ σ.length) (h1 : ∀ p o, p < m → ops[ix σ p]? = some o → b (p + 1) = (b p).put o.dst (v (ix σ p))) (ht : tmpOko ops (Region.before ops) a0.tmps.size = true) :
    ∀ k, k ≤ m → Left ops a0 v (First σ k) (b k)
  | 0, _ => by rw [h0]; exact ⟨rfl, rfl, fun i d hi => by obtain ⟨p, hp, _⟩ := hi; omega, fun t _ => rfl⟩
  | k + 1, hk => by
    have ih := Left.prefixo hO h0 hm h1 ht k (by omega)
    obtain ⟨o, ho⟩ : ∃ o, ops[ix σ k]? = some o := ⟨_, Array.getElem?_eq_some_iff.2 ⟨hO.lt k (by omega), rfl⟩⟩
    obtain ⟨t1, t2, t3⟩ := tmpOko_spec ht ho
    have := ih.next ho t1 (fun i d hij hd => (t3 i d hij hd).1)
    rw [h1 k o (by omega) ho]
    refine this.congr (fun i => ⟨fun ⟨p, hp, he⟩ => ?_, fun h => ?_⟩) (fun _ _ => rfl)
    · rcases Nat.lt_or_ge p k with h | h
      · exact .inl ⟨p, h, he⟩
      · exact .inr (by rw [← he, show p = k from by omega])
    · rcases h with ⟨p, hp, he⟩ | h
      · exact ⟨p, by omega, he⟩
      · exact ⟨k, by omega, h.symm⟩
theorem wallo_spec {m : Nat} (h : wallo ops σ m = true) {q : Nat} (hq : q < σ.length) {o : Oper} (ho : ops[ix σ q]? = some o) :
    (m < q → pre (Region.before ops) (ix σ q) (ix σ m) = true) ∧ (q < m → isCall o = true → pre (Region.before ops) (ix σ m) (ix σ q) = true) := by
  have h1 := List.all_eq_true.1 h q (List.mem_range.2 hq)
  simp only [ho, Bool.and_eq_true, Bool.or_eq_true, Bool.not_eq_true', decide_eq_false_iff_not] at h1
  refine ⟨fun hkj => h1.1.resolve_left (fun h => h hkj), fun hjk hc => ?_⟩
  rcases h1.2 with h2 | h2
  · simp [hjk, hc] at h2
  · exact h2
/-- where a drawn region stands -/
def Invo (P : Program) (ops : Array Oper) (Q : Exit → Act → World → Prop) (σ : List Nat) (a0 : Act) (L : Nat → Prop) (a : Act) (w : World) : Prop :=
  ∃ (m : Nat) (v : Nat → Value) (b : Nat → Act) (S : World → Prop), S w ∧ m ≤ σ.length ∧ b 0 = a0 ∧ (∀ p o, p < m → ops[ix σ p]? = some o → b (p + 1) = (b p).put o.dst (v (ix σ p))) ∧
    (∀ p o, p < m → ¬ L (ix σ p) → ops[ix σ p]? = some o → Det P ops S o (b p) (v (ix σ p))) ∧ Stopo P ops Q σ (σ.drop m) m (b m) S ∧ (∀ i, L i → First σ m i) ∧ Left ops a0 v L a
theorem any_of_seqo {a0 : Act} (hO : Ord ops σ) (hp : preOk ops (Region.before ops) = true) (ht : tmpOko ops (Region.before ops) a0.tmps.size = true) :
    ∀ (fuel : Nat) (listed : Array Bool) (a : Act) (w : World), listed.size = ops.size → listed.toList.count false ≤ fuel → Closed ops (fun i => listed.getD i false = true) →
      Invo P ops Q σ a0 (fun i => listed.getD i false = true) a w → wpAny P .any ops Q fuel listed a w := by
  have hgd : ∀ (listed : Array Bool) (j : Nat), listed.getD j true = false → listed.getD j false = false := by
    intro listed j h
    simp only [Array.getD_eq_getD_getElem?] at h ⊢
    cases hx : listed[j]? with
    | none => rw [hx] at h; cases h
    | some x => rw [hx] at h; exact h
  have hdl : ∀ i d, dstOf ops i = some d → i < ops.size := by
    intro i d hd
    unfold dstOf at hd
    rcases Nat.lt_or_ge i ops.size with h' | h'
    · exact h'
    · rw [Array.getElem?_eq_none h'] at hd; cases hd
  have huniq : ∀ p q, p < σ.length → q < σ.length → ix σ p = ix σ q → p = q := by
    intro p q h1 h2 he
    rcases Nat.lt_trichotomy p q with h | h | h
    · exact absurd he (hO.ne p q h h2)
    · exact h
    · exact absurd he.symm (hO.ne q p h h1)
  have hend : ∀ (listed : Array Bool) (a : Act) (w : World), listed.size = ops.size → Invo P ops Q σ a0 (fun i => listed.getD i false = true) a w → Region.ready .any ops listed = [] → Q .normal a w := by
    intro listed a w hsz hI hr
    have hall : ∀ m i, i < m → i < ops.size → listed.getD i false = true := by
      intro m
      induction m with
      | zero => intro i hi; omega
      | succ m ih =>
        intro i hi his
        cases hx : listed.getD i false with
        | true => rfl
        | false =>
          exfalso
          obtain ⟨o, ho⟩ : ∃ o, ops[i]? = some o := ⟨_, Array.getElem?_eq_some_iff.2 ⟨his, rfl⟩⟩
          have : i ∈ Region.ready .any ops listed := mem_ready.2 ⟨by
            simp only [Array.getD_eq_getD_getElem?] at hx ⊢
            rw [Array.getElem?_eq_getElem (by omega)] at hx ⊢
            exact hx, o, ho, fun e he hb => by
              have := (preOk_spec hp ho).1 e he hb
              exact ih e.on (by omega) (by omega)⟩
          rw [hr] at this
          cases this
    obtain ⟨m, v, b, S, hS, hm, h0, h1, h2, h3, h4, h5⟩ := hI
    have hmn : m = σ.length := by
      rcases Nat.lt_or_ge m σ.length with h | h
      · obtain ⟨p, hp1, hp2⟩ := h4 (ix σ m) (hall (ix σ m + 1) _ (by omega) (hO.lt m h))
        have := huniq p m (by omega) h hp2
        omega
      · omega
    subst hmn
    have : a = b σ.length := by
      have hf := Left.prefixo hO h0 (Nat.le_refl _) h1 ht σ.length (Nat.le_refl _)
      refine act_ext (h5.defers.trans hf.defers.symm) fun t => h5.agree hf fun i hd => ?_
      have hi := hdl i t hd
      exact ⟨fun _ => hO.all i hi, fun _ => hall (i + 1) i (by omega) hi⟩
    rw [this]
    rw [List.drop_eq_nil_of_le (Nat.le_refl _)] at h3
    exact h3 w hS
  intro fuel
  induction fuel with
  | zero =>
    intro listed a w hsz hc hcl hI
    have hr : Region.ready .any ops listed = [] := by
      apply List.eq_nil_iff_forall_not_mem.2
      intro j hj
      have h0 := (mem_ready.1 hj).1
      have := count_set h0
      omega
    exact ⟨hr, hend listed a w hsz hI hr⟩
  | succ fuel ih =>
    intro listed a w hsz hc hcl hI
    refine ⟨hend listed a w hsz hI, fun j hj => ?_⟩
    obtain ⟨m, v, b, S, hS, hm, h0, h1, h2, h3, h4, h5⟩ := hI
    obtain ⟨hun, o, ho, hall⟩ := mem_ready.1 hj
    have hunf := hgd _ _ hun
    have hjs : j < ops.size := (Array.getElem?_eq_some_iff.1 ho).1
    obtain ⟨t1, t2, t3⟩ := tmpOko_spec ht ho
    have hget : ∀ i, (listed.setIfInBounds j true).getD i false = true ↔ (listed.getD i false = true ∨ i = j) := by
      intro i
      simp only [Array.getD_eq_getD_getElem?, Array.getElem?_setIfInBounds]
      by_cases hij : j = i
      · subst hij
        rw [if_pos rfl, if_pos (by omega)]; simp
      · rw [if_neg hij]
        exact ⟨.inl, fun h => h.resolve_right (fun e => hij e.symm)⟩
    have hcl' : Closed ops (fun i => (listed.setIfInBounds j true).getD i false = true) := by
      intro k ok hok hk e he hb
      rw [hget] at hk ⊢
      rcases hk with hk | rfl
      · exact .inl (hcl k ok hok hk e he hb)
      · rw [ho] at hok; cases hok
        exact .inl (hall e he hb)
    have hpl : ∀ i, i < ops.size → pre (Region.before ops) j i = true → listed.getD i false = true := fun i his hpre => pre_in hp hcl (j + 1) j o (by omega) ho hall i his hpre
    obtain ⟨pj, hpj, hpe⟩ := hO.all j hjs
    have hjm : pj ≤ m := by
      rcases Nat.lt_or_ge m pj with h | h
      · exfalso
        have hms : m < σ.length := by omega
        rw [ix_at hms] at h3
        obtain ⟨om, hom, h3⟩ := h3
        have h6 := (wallo_spec h3.1 hpj (by rw [hpe]; exact ho)).1 h
        rw [hpe] at h6
        obtain ⟨p, hp1, hp2⟩ := h4 _ (hpl _ (hO.lt m hms) h6)
        have := huniq p m (by omega) hms hp2
        omega
      · exact h
    have hsame := exec_same (ops := ops) t2 (a := a) (b := b pj) (fun t htl => h5.agree (Left.prefixo hO h0 hm h1 ht pj hjm) fun i hd => by
      by_cases hij : i = j
      · subst hij
        refine ⟨fun h => ?_, fun ⟨p, hp1, hp2⟩ => ?_⟩
        · rw [hunf] at h; cases h
        · have := huniq p pj (by omega) hpj (hp2.trans hpe.symm); omega
      · have his := hdl i t hd
        obtain ⟨pi, hpi, hpie⟩ := hO.all i his
        rcases (t3 i t hij hd).2 htl with hpre | hpre
        · refine ⟨fun _ => ⟨pi, ?_, hpie⟩, fun _ => hpl i his hpre⟩
          rcases Nat.lt_trichotomy pi pj with h | h | h
          · exact h
          · rw [h] at hpie; exact absurd (hpie.symm.trans hpe) hij
          · have := hO.ext pj pi h hpi; rw [hpe, hpie] at this; rw [this] at hpre; cases hpre
        · refine ⟨fun h => ?_, fun ⟨p, hp1, hp2⟩ => ?_⟩
          · exfalso
            obtain ⟨oi, hoi⟩ : ∃ oi, ops[i]? = some oi := ⟨_, Array.getElem?_eq_some_iff.2 ⟨his, rfl⟩⟩
            have := pre_in hp hcl (i + 1) i oi (by omega) hoi (fun e he hb => hcl i oi hoi h e he hb) j hjs hpre
            rw [hunf] at this; cases this
          · exfalso
            have := hO.ext p pj hp1 hpj
            rw [hpe, hp2] at this; rw [this] at hpre; cases hpre)
    unfold wpOp
    simp only [ho]
    have hoj : ops[ix σ pj]? = some o := by rw [hpe]; exact ho
    rcases Nat.lt_or_ge pj m with hlt | hge
    · -- known ahead
      have hnj : ¬ listed.getD (ix σ pj) false = true := by rw [hpe, hunf]; simp
      have hdet := h2 pj o hlt hnj hoj
      have hgo : ∀ w', S w' → wpAny P .any ops Q fuel (listed.setIfInBounds j true) (a.put o.dst (v j)) w' := by
        intro w' hS'
        refine ih _ _ w' (by simp [hsz]) (by have := count_set hun; omega) hcl' ⟨m, v, b, S, hS', hm, h0, h1, fun p oi hp hL => h2 p oi hp (fun h => hL ((hget _).2 (.inl h))), h3, fun i hi => ?_, ?_⟩
        · rcases (hget i).1 hi with h | rfl
          · exact h4 i h
          · exact ⟨pj, hlt, hpe⟩
        · exact (h5.next ho t1 (fun i d hij hd => (t3 i d hij hd).1)).congr hget (fun _ _ => rfl)
      rw [hpe] at hdet
      rcases hdet with ⟨hw, hd⟩ | ⟨hw, hv⟩ | ⟨_, hw, hd⟩
      · rw [hsame.2, hw, if_pos rfl]
        refine .inl ?_
        unfold Oper.wp
        rw [hsame.1, hd w hS]
        exact hgo w hS
      · rw [hsame.2, hw, if_neg (by simp)]
        rw [← hv]; exact hgo w hS
      · rw [hsame.2, hw, if_pos rfl]
        exact .inl ((hd w hS).wp hsame.1 hgo)
    · -- the wall
      obtain rfl : pj = m := by omega
      rw [ix_at hpj] at h3
      obtain ⟨om, hom, hwall, hw, V, S', hd, hS', hnext⟩ := h3
      rw [hoj] at hom; cases hom
      rw [hsame.2, hw, if_pos rfl]
      refine .inl ((hd w hS).wp hsame.1 fun u w' hu => ?_)
      obtain ⟨hV, hSu⟩ := hu
      obtain ⟨m', v', b', n1, n2, n3, n4, n5, n6⟩ := normo hO (σ.drop (pj + 1)) (pj + 1) ((b pj).put o.dst u) (S' u) (fun i => if i = j then u else v i) (fun i => if i = pj + 1 then (b pj).put o.dst u else b i) rfl hpj (by simp) (hnext u hV)
      have hvj : v' j = u := by have := n3 pj (by omega); rw [hpe] at this; rw [this]; simp
      have hbs : ∀ i, i ≤ pj → b' i = b i := fun i hi => by rw [n4 i (by omega), if_neg (by omega)]
      have hvs : ∀ p, p < pj → v' (ix σ p) = v (ix σ p) := fun p hp => by rw [n3 p (by omega), if_neg (by rw [← hpe]; exact hO.ne p pj hp hpj)]
      have hbj : b' (pj + 1) = (b pj).put o.dst u := by rw [n4 (pj + 1) (by omega), if_pos rfl]
      refine ih _ _ w' (by simp [hsz]) (by have := count_set hun; omega) hcl' ⟨m', v', b', S' u, hSu, n2, by rw [hbs 0 (by omega)]; exact h0, fun p oi hp hoi => ?_, fun p oi hp hL hoi => ?_, n6, fun i hi => ?_, ?_⟩
      · rcases Nat.lt_trichotomy p pj with h | h | h
        · rw [hbs (p + 1) (by omega), hbs p (by omega), hvs p h]; exact h1 p oi h hoi
        · subst h; rw [hoj] at hoi; cases hoi; rw [hbj, hbs p (by omega), hpe, hvj]
        · exact (n5 p oi (by omega) hp hoi).1
      · rcases Nat.lt_trichotomy p pj with h | h | h
        · have hnl : ¬ listed.getD (ix σ p) false = true := fun h' => hL ((hget _).2 (.inl h'))
          have hD := h2 p oi h hnl hoi
          rw [hbs p (by omega), hvs p h]
          rcases hS' with hS' | hfull
          · rcases hD with ⟨d1, d2⟩ | hD | ⟨hc, _, _⟩
            · exact .inl ⟨d1, fun w hw => d2 w (hS' u w hw)⟩
            · exact .inr (.inl hD)
            · have := (wallo_spec hwall (by omega) hoi).2 h hc
              rw [hpe] at this
              exact absurd (hpl _ (hO.lt p (by omega)) this) hnl
          · have := List.all_eq_true.1 hfull p (List.mem_range.2 (by omega))
            simp only [Bool.or_eq_true, Bool.not_eq_true', decide_eq_false_iff_not] at this
            have := this.resolve_left (fun h' => h' h)
            rw [hpe] at this
            exact absurd (hpl _ (hO.lt p (by omega)) this) hnl
        · exact absurd ((hget _).2 (.inr (by rw [h]; exact hpe))) hL
        · exact (n5 p oi (by omega) hp hoi).2
      · rcases (hget i).1 hi with h | rfl
        · obtain ⟨p, hp1, hp2⟩ := h4 i h; exact ⟨p, by omega, hp2⟩
        · exact ⟨pj, by omega, hpe⟩
      · have hL1 : Left ops a0 v' (fun i => listed.getD i false = true) a := h5.congr (fun _ => Iff.rfl) (fun i hi => by obtain ⟨p, hp1, hp2⟩ := h4 i hi; rw [← hp2]; exact hvs p hp1)
        have hL2 := hL1.next ho t1 (fun i d hij hd => (t3 i d hij hd).1)
        rw [hvj] at hL2
        exact hL2.congr hget (fun _ _ => rfl)
/-- **A drawn region in an order of one's own, with walls.** -/
theorem wp_region_seqo (σ : List Nat) {id : Nat} {a : Act} {w : World} {S : World → Prop} (hm : P.follows .mixedOrders = true) (hok : seqOko ops σ a.tmps.size = true) (hS : S w.drew) (h : Seqo P ops Q σ σ 0 a S) :
    (Code.region id ops true).wp P Q a w := by
  unfold seqOko at hok
  rw [Bool.and_eq_true, Bool.and_eq_true] at hok
  have hO := ordOk_spec hok.2
  have hf : ∀ i, ¬ (Array.replicate ops.size false).getD i false = true := by
    intro i hj
    simp only [Array.getD_eq_getD_getElem?, Array.getElem?_replicate] at hj
    split at hj <;> cases hj
  obtain ⟨m, v, b, n1, n2, n3, n4, n5, n6⟩ := normo hO σ 0 a S (fun _ => undef) (fun _ => a) (by simp) (by omega) rfl h
  refine wp_region_any hm (any_of_seqo hO hok.1.1 hok.1.2 _ _ a _ (by simp) (by simp) (fun j o ho hj => absurd hj (hf j)) ⟨m, v, b, S, hS, n2, n4 0 (by omega), fun p o hp ho => (n5 p o (by omega) hp ho).1, fun p o hp _ ho => (n5 p o (by omega) hp ho).2, n6, fun i hi => absurd hi (hf i), ?_⟩)
  exact ⟨rfl, rfl, fun i d hi => absurd hi (hf i), fun t _ => rfl⟩
/-! the steps -/
variable {S : World → Prop}
theorem at_drop {i : Nat} {o : Oper} {more : List Oper} (h : ops.toList.drop i = o :: more) : ops[i]? = some o := by
  have h1 : (ops.toList.drop i)[0]? = some o := by rw [h]; rfl
  rw [List.getElem?_drop] at h1
  simpa using h1
theorem Seqo.nil {a : Act} {k : Nat} (h : ∀ w, S w → Q .normal a w) : Seqo P ops Q σ [] k a S := h
theorem Seqo.light {i : Nat} {rest : List Nat} {k : Nat} {a : Act} {o : Oper} {v : Value} {more : List Oper} (ho' : ops.toList.drop i = o :: more) (hw : Region.wanted o (yielded ops a.tmps) = true) (hv : ∀ w, S w → (execOp a.eval o).run P w = .ok (.value v) w) (h : Seqo P ops Q σ rest (k + 1) (a.put o.dst v) S) :
    Seqo P ops Q σ (i :: rest) k a S := ⟨o, at_drop ho', .inl ⟨v, .inl ⟨hw, hv⟩, h⟩⟩
theorem Seqo.skip {i : Nat} {rest : List Nat} {k : Nat} {a : Act} {o : Oper} {more : List Oper} (ho' : ops.toList.drop i = o :: more) (hw : Region.wanted o (yielded ops a.tmps) = false) (h : Seqo P ops Q σ rest (k + 1) (a.put o.dst undef) S) :
    Seqo P ops Q σ (i :: rest) k a S := ⟨o, at_drop ho', .inl ⟨undef, .inr (.inl ⟨hw, rfl⟩), h⟩⟩
theorem Seqo.call {i : Nat} {rest : List Nat} {k : Nat} {a : Act} {o : Oper} {f : FuncId} {args : Array Value} (v : Value) {more : List Oper} (ho' : ops.toList.drop i = o :: more) (hc : isCall o = true) (hw : Region.wanted o (yielded ops a.tmps) = true) (hv : ∀ w, S w → (execOp a.eval o).run P w = .ok (.enter f args) w)
    (hcall : ∀ w, S w → Calls P f args w fun e w' => e = .returned v ∧ S w') (h : Seqo P ops Q σ rest (k + 1) (a.put o.dst v) S) :
    Seqo P ops Q σ (i :: rest) k a S := ⟨o, at_drop ho', .inl ⟨v, .inr (.inr ⟨hc, hw, fun w hS => by unfold Does; rw [hv w hS]; exact hcall w hS⟩), h⟩⟩
/-- a call whose value is not known ahead: a wall -/
theorem Seqo.callw {i : Nat} {rest : List Nat} {k : Nat} {a : Act} {o : Oper} {f : FuncId} {args : Array Value} (V : Value → Prop) (S' : Value → World → Prop) {more : List Oper} (ho' : ops.toList.drop i = o :: more) (hk : wallo ops σ k = true) (hw : Region.wanted o (yielded ops a.tmps) = true) (hv : ∀ w, S w → (execOp a.eval o).run P w = .ok (.enter f args) w)
    (hcall : ∀ w, S w → Calls P f args w fun e w' => ∃ v, e = .returned v ∧ V v ∧ S' v w') (hS' : (∀ v w, S' v w → S w) ∨ fullWallo ops σ k = true) (h : ∀ v, V v → Seqo P ops Q σ rest (k + 1) (a.put o.dst v) (S' v)) :
    Seqo P ops Q σ (i :: rest) k a S := ⟨o, at_drop ho', .inr ⟨hk, hw, V, S', fun w hS => by unfold Doesv; rw [hv w hS]; exact hcall w hS, hS', h⟩⟩
/-- an operation of its own (an alloc, a store, a builtin) that is a wall -/
theorem Seqo.opw {i : Nat} {rest : List Nat} {k : Nat} {a : Act} {o : Oper} (V : Value → Prop) (S' : Value → World → Prop) {more : List Oper} (ho' : ops.toList.drop i = o :: more) (hk : wallo ops σ k = true) (hw : Region.wanted o (yielded ops a.tmps) = true) (hv : ∀ w, S w → ∃ v w', (execOp a.eval o).run P w = .ok (.value v) w' ∧ V v ∧ S' v w')
    (hS' : (∀ v w, S' v w → S w) ∨ fullWallo ops σ k = true) (h : ∀ v, V v → Seqo P ops Q σ rest (k + 1) (a.put o.dst v) (S' v)) :
    Seqo P ops Q σ (i :: rest) k a S := ⟨o, at_drop ho', .inr ⟨hk, hw, V, S', fun w hS => by obtain ⟨v, w', h1, h2⟩ := hv w hS; unfold Doesv; rw [h1]; exact h2, hS', h⟩⟩
/-- a store -/
theorem Seqo.storew {i : Nat} {rest : List Nat} {k : Nat} {a : Act} {o : Oper} (S' : World → Prop) {more : List Oper} (ho' : ops.toList.drop i = o :: more) (hk : wallo ops σ k = true) (hw : Region.wanted o (yielded ops a.tmps) = true) (hv : ∀ w, S w → ∃ w', (execOp a.eval o).run P w = .ok .skip w' ∧ S' w')
    (hS' : (∀ w, S' w → S w) ∨ fullWallo ops σ k = true) (h : Seqo P ops Q σ rest (k + 1) (a.put o.dst undef) S') :
    Seqo P ops Q σ (i :: rest) k a S := ⟨o, at_drop ho', .inr ⟨hk, hw, fun v => v = undef, fun _ => S', fun w hS => by obtain ⟨w', h1, h2⟩ := hv w hS; unfold Doesv; rw [h1]; exact ⟨rfl, h2⟩, hS'.imp (fun h _ => h) id, fun v hv => by rw [hv]; exact h⟩⟩
end
end Go.Proofs.YtcioejacijkbcaaGreatDoor.Rg
