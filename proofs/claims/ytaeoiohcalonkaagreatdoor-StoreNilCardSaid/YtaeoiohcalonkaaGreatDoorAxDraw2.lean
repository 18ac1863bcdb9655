/- Exchanging steps of a region. -/
import Derived.Test.YtaeoiohcalonkaaGreatDoorAxDraw
set_option linter.unusedVariables false
set_option linter.unusedSimpArgs false
namespace Go.Ax
open Go
variable {L : Type} {P : Program} {ops : Array Oper} {base : Nat} {W : Nat → Nat → Bool} {call : Spec L}

theorem clo_clo (call : Spec L) : clo (clo call) = clo call := by
  funext f args σ K
  apply propext
  constructor
  · rintro ⟨K0, ⟨K1, h1, h2⟩, h3⟩; exact ⟨K1, h1, fun v σ h => h3 _ _ (h2 _ _ h)⟩
  · intro h; exact ⟨K, h, fun _ _ h => h⟩

theorem aStep_mono {call : Spec L} (hc : clo call = call) {o : Oper} {F : Fr} {σ : AMem L} {b nx : Nat} {K K' : Fr → AMem L → Prop} (h : aStep P call ops o F σ b nx K)
    (hK : ∀ F' σ', K F' σ' → K' F' σ') : aStep P call ops o F σ b nx K' := by
  have := aStep_congr (F' := F) h (fun _ _ => rfl) (fun u σ' => hK _ σ')
  rwa [hc] at this

/-- Less is looked at again. -/
theorem aPl_done (hc : clo call = call) {K : Fr → AMem L → Prop} : ∀ (items : List PItem) (done done' : List Nat) (pend : Nat → Option (AObj L)) (F : Fr) (σ : AMem L), (∀ j ∈ done', j ∈ done) →
    aPl P call ops base W items done pend F σ K → aPl P call ops base W items done' pend F σ K
  | [], _, _, _, _, _, _, h => h
  | .op i :: rest, done, done', pend, F, σ, hd, h => by
    simp only [aPl] at h ⊢
    split at h
    · exact h.elim
    · refine aStep_mono hc h fun F' σ' hh => ⟨fun ha j hj => hh.1 ha j (hd j hj), aPl_done hc rest _ _ pend F' σ' ?_ hh.2⟩
      intro j hj
      simp only [List.mem_append] at hj ⊢
      exact hj.imp (hd j) id
  | .mk i :: rest, done, done', pend, F, σ, hd, h => by
    simp only [aPl] at h ⊢
    split at h
    · exact h.elim
    · split at h
      · exact h.elim
      · exact aPl_done hc rest _ _ _ _ _ hd h
      · split at h
        · exact aPl_done hc rest _ _ _ _ _ hd h
        · exact h.elim
  | .reveal i :: rest, done, done', pend, F, σ, hd, h => by
    simp only [aPl] at h ⊢
    split at h
    · exact aPl_done hc rest _ _ _ _ _ hd h
    · exact aPl_done hc rest _ _ _ _ _ hd h

/-- What a region's own text gives, the ways of waiting among it. -/
structure Static (P : Program) (ops : Array Oper) (W : Nat → Nat → Bool) : Prop where
  dsts : ∀ (i j : Nat) (oi oj : Oper) (d : Nat), ops[i]? = some oi → ops[j]? = some oj → oi.dst = some d → oj.dst = some d → i = j
  reads : ∀ (i j : Nat) (oi oj : Oper) (d : Nat), ops[i]? = some oi → ops[j]? = some oj → oi.dst = some d → d ∈ oj.looksAt ops → W j i = true ∨ (W i j = true ∧ looks P oj.op = false)
  closed : ∀ (i k : Nat), W i k = true → ∃ (o : Oper) (e : Edge), ops[i]? = some o ∧ e ∈ o.after ∧ Region.binds .any e = true ∧ (e.on = k ∨ W e.on k = true)
  irrefl : ∀ i, W i i = false

def PItem.slots (ops : Array Oper) (x : PItem) : List Nat :=
  match x.idx with
  | some i => match ops[i]? with
    | some o => o.looksAt ops
    | none => []
  | none => []

theorem qRes_congr {x : PItem} {F F' : Fr} {σ : AMem L} (h : ∀ d ∈ x.slots ops, F d = F' d) : qRes P ops base L x F σ = qRes P ops base L x F' σ := by
  cases x with
  | op i =>
    simp only [qRes]
    simp only [PItem.slots, PItem.idx] at h
    cases ho : ops[i]? with
    | none => rfl
    | some o =>
      simp only [ho] at h
      simp only
      rw [aWanted_congr h, aOp_congr' h]
  | mk i =>
    simp only [qRes]
    simp only [PItem.slots, PItem.idx] at h
    cases ho : ops[i]? with
    | none => rfl
    | some o =>
      simp only [ho] at h
      simp only
      rw [aWanted_congr h, aNew_congr h]
  | reveal i => rfl

/-- Neither waits for the other. -/
def Unrel (W : Nat → Nat → Bool) (x y : PItem) : Prop := ∀ i j, x.idx = some i → y.idx = some j → W i j = false ∧ W j i = false ∧ i ≠ j

theorem Unrel.symm {x y : PItem} (h : Unrel W x y) : Unrel W y x := fun i j hi hj => let ⟨a, b, c⟩ := h j i hj hi; ⟨b, a, c.symm⟩

theorem dst_notin (hs : Static P ops W) {x y : PItem} (h : Unrel W x y) : ∀ d, x.dst ops = some d → d ∉ y.slots ops := by
  intro d hd hm
  unfold PItem.dst at hd
  obtain ⟨i, hi, hd⟩ := Option.bind_eq_some_iff.1 hd
  obtain ⟨oi, hoi, hdi⟩ := Option.bind_eq_some_iff.1 hd
  unfold PItem.slots at hm
  split at hm
  · rename_i j hj
    split at hm
    · rename_i oj hoj
      obtain ⟨h1, h2, _⟩ := h i j hi hj
      rcases hs.reads i j oi oj d hoi hoj hdi hm with h3 | ⟨h3, _⟩
      · rw [h2] at h3; cases h3
      · rw [h1] at h3; cases h3
    · cases hm
  · cases hm

theorem dst_ne (hs : Static P ops W) {x y : PItem} (h : Unrel W x y) : ∀ d, x.dst ops = some d → y.dst ops ≠ some d := by
  intro d hd he
  unfold PItem.dst at hd he
  obtain ⟨i, hi, hd⟩ := Option.bind_eq_some_iff.1 hd
  obtain ⟨oi, hoi, hdi⟩ := Option.bind_eq_some_iff.1 hd
  obtain ⟨j, hj, he⟩ := Option.bind_eq_some_iff.1 he
  obtain ⟨oj, hoj, hdj⟩ := Option.bind_eq_some_iff.1 he
  exact (h i j hi hj).2.2 (hs.dsts i j oi oj d hoi hoj hdi hdj)

theorem idx_ne {x y : PItem} (h : Unrel W x y) : ∀ i, x.idx = some i → y.idx ≠ some i := fun i hi hj => (h i i hi hj).2.2 rfl

/-- A quiet step goes first. -/
theorem front_quiet (hc : clo call = call) (hs : Static P ops W) {x : PItem} (hx : Quiet P ops x) {K : Fr → AMem L → Prop} {post : List PItem} : ∀ (pre : List PItem) (done : List Nat) (pend : Nat → Option (AObj L)) (F : Fr) (σ : AMem L),
    (∀ y ∈ pre, Quiet P ops y ∧ Unrel W x y) → aPl P call ops base W (pre ++ x :: post) done pend F σ K →
      ∃ v r, qRes P ops base L x F σ = some (v, r) ∧ aPl P call ops base W (pre ++ post) done (addPend pend x.idx r) (Fr.put F (x.dst ops) v) σ K
  | [], done, pend, F, σ, _, h => by
    obtain ⟨v, r, h1, h2⟩ := (aPl_quiet hx).1 h
    exact ⟨v, r, h1, aPl_done hc post _ _ _ _ _ (fun j hj => by simp [hj]) h2⟩
  | y :: pre, done, pend, F, σ, hp, h => by
    obtain ⟨hy, hu⟩ := hp y (.head _)
    obtain ⟨u, s, h1, h2⟩ := (aPl_quiet hy).1 h
    obtain ⟨v, r, h3, h4⟩ := front_quiet hc hs hx pre _ _ _ _ (fun z hz => hp z (.tail _ hz)) h2
    refine ⟨v, r, ?_, (aPl_quiet hy).2 ⟨u, s, ?_, ?_⟩⟩
    · rw [← h3]; exact qRes_congr fun d hd => (put_agree (dst_notin hs hu.symm) d hd).symm
    · rw [← h1]; exact qRes_congr fun d hd => put_agree (dst_notin hs hu) d hd
    · rw [put_comm _ _ (dst_ne hs hu), addPend_comm (idx_ne hu)]; exact h4

theorem quiet_put {x : PItem} (hx : Quiet P ops x) {F : Fr} {σ : AMem L} {v : Value} {r : Option (AObj L)} {c nx : Nat} {o : AObj L} (hcn : σ.get c = none) (h : qRes P ops base L x F σ = some (v, r)) :
    qRes P ops base L x F (σ.put c nx o) = some (v, r) := by
  cases x with
  | op i =>
    obtain ⟨oi, ho, ha, hm⟩ := hx
    simp only [qRes, ho] at h ⊢
    split at h
    · cases h
    · exact h
    · obtain ⟨p, hp, hp2⟩ := Option.map_eq_some_iff.1 h
      obtain ⟨u, σ'⟩ := p
      have : aOp P oi.op F (σ.put c nx o) (base + i) (σ.put c nx o).next = some (u, σ.put c nx o) := by
        cases hl : looks P oi.op with
        | true => exact (looks_le hl hm hp).2 _ _ _ (Le.put hcn)
        | false => exact (pure_indep (by simp [pureOp, hl, hm, ha]) hp).2 _ _ _
      rw [this]
      simpa using hp2
  | mk i => exact h
  | reveal i => exact hx.elim

/-- A block is seen first. -/
theorem front_reveal {j : Nat} {K : Fr → AMem L → Prop} {post : List PItem} : ∀ (pre : List PItem) (done : List Nat) (pend : Nat → Option (AObj L)) (F : Fr) (σ : AMem L),
    (∀ y ∈ pre, Quiet P ops y ∧ y.idx ≠ some j) → σ.get (base + j) = none → aPl P call ops base W (pre ++ .reveal j :: post) done pend F σ K →
      aPl P call ops base W (.reveal j :: (pre ++ post)) done pend F σ K
  | [], _, _, _, _, _, _, h => h
  | y :: pre, done, pend, F, σ, hp, hg, h => by
    obtain ⟨hy, hne⟩ := hp y (.head _)
    obtain ⟨u, s, h1, h2⟩ := (aPl_quiet hy).1 h
    have h3 := front_reveal pre _ _ _ _ (fun z hz => hp z (.tail _ hz)) hg h2
    have hpend : addPend pend y.idx s j = pend j := by
      cases hi : y.idx with
      | none => rfl
      | some i =>
        cases s with
        | none => rfl
        | some s =>
          have : j ≠ i := fun e => hne (by rw [hi, e])
          simp [addPend, setPend, this]
    simp only [aPl, hpend] at h3 ⊢
    split at h3
    · exact (aPl_quiet hy).2 ⟨u, s, quiet_put hy hg h1, h3⟩
    · exact (aPl_quiet hy).2 ⟨u, s, h1, h3⟩

/-- An act goes ahead of a quiet step. -/
theorem swap_act (hc : clo call = call) (hs : Static P ops W) {x : PItem} (hx : Quiet P ops x) {e : Nat} {oe : Oper} (he : ops[e]? = some oe) (hea : acts oe.op = true) {K : Fr → AMem L → Prop} {post : List PItem} {done : List Nat}
    {pend : Nat → Option (AObj L)} {F : Fr} {σ : AMem L} (hu : Unrel W x (.op e)) (hd : ∀ j ∈ done, ∀ k, x.idx = some k → W j k = false)
    (h : aPl P call ops base W (x :: .op e :: post) done pend F σ K) : aPl P call ops base W (.op e :: x :: post) done pend F σ K := by
  obtain ⟨v, r, h1, h2⟩ := (aPl_quiet hx).1 h
  simp only [aPl, he] at h2 ⊢
  have hag : ∀ d ∈ oe.looksAt ops, Fr.put F (x.dst ops) v d = F d := put_agree (fun d hd' => by
    have := dst_notin hs hu d hd'
    simpa [PItem.slots, PItem.idx, he] using this)
  have hxd : PItem.dst ops (.op e) = oe.dst := by simp [PItem.dst, PItem.idx, he]
  have := aStep_congr (F' := F) (K' := fun F' σ' => (acts oe.op = true → aSame P ops base W e done F σ σ') ∧ aPl P call ops base W (x :: post) (done ++ [e]) pend F' σ' K) h2 hag ?_
  · rwa [hc] at this
  · rintro u σ' ⟨k1, k2⟩
    refine ⟨fun ha j hj hw oj hoj hl hwa => ?_, ?_⟩
    · -- what was looked at before
      have hag2 : ∀ d ∈ oj.looksAt ops, Fr.put F (x.dst ops) v d = F d := put_agree (fun d hd' hm => by
        unfold PItem.dst at hd'
        obtain ⟨k, hk, hd2⟩ := Option.bind_eq_some_iff.1 hd'
        obtain ⟨ok, hok, hdk⟩ := Option.bind_eq_some_iff.1 hd2
        rcases hs.reads k j ok oj d hok hoj hdk hm with h3 | ⟨_, h3⟩
        · rw [hd j hj k hk] at h3; cases h3
        · rw [hl] at h3; cases h3)
      have := k1 ha j (by simp [hj]) hw oj hoj hl (by rw [aWanted_congr hag2]; exact hwa)
      simpa only [aOp_congr' hag2] using this
    · refine (aPl_quiet hx).2 ⟨v, r, ?_, ?_⟩
      · -- the quiet step behind the act
        have e1 : qRes P ops base L x (Fr.put F oe.dst u) σ' = qRes P ops base L x F σ' := qRes_congr fun d hd' => put_agree (fun y hy => by
          have := dst_notin hs hu.symm y (by rw [hxd]; exact hy)
          exact this) d hd'
        rw [e1]
        cases x with
        | mk k => exact h1
        | reveal k => exact hx.elim
        | op k =>
          obtain ⟨ok, hok, hka, hkm⟩ := hx
          simp only [qRes, hok] at h1 ⊢
          split at h1
          · cases h1
          · exact h1
          · rename_i hwk
            obtain ⟨p, hp, hp2⟩ := Option.map_eq_some_iff.1 h1
            obtain ⟨y, σ2⟩ := p
            have hy : aOp P ok.op F σ' (base + k) σ'.next = some (y, σ') := by
              cases hl : looks P ok.op with
              | false => exact (pure_indep (by simp [pureOp, hl, hkm, hka]) hp).2 _ _ _
              | true =>
                have hag3 : ∀ d ∈ ok.looksAt ops, Fr.put F (PItem.dst ops (.op k)) v d = F d := put_agree (fun d hd' hm => by
                  have hdk : ok.dst = some d := by simpa [PItem.dst, PItem.idx, hok] using hd'
                  rcases hs.reads k k ok ok d hok hok hdk hm with h3 | ⟨_, h3⟩
                  · rw [hs.irrefl] at h3; cases h3
                  · rw [hl] at h3; cases h3)
                obtain ⟨_, hwek, _⟩ := hu k e rfl rfl
                obtain ⟨v', g1, g2⟩ := k1 hea k (by simp [PItem.look]) hwek ok hok hl (by rw [aWanted_congr hag3]; exact hwk)
                rw [aOp_congr' hag3] at g1 g2
                have hσ2 := (looks_le hl hkm hp).1
                subst hσ2
                have := (looks_le hl hkm hp).2 σ2 (base + k) σ2.next (fun _ _ h => h)
                rw [g1] at this
                cases this
                exact g2
            rw [hy]
            simpa using hp2
      · rw [put_comm _ _ (fun d hd' => by
          have := dst_ne hs hu.symm d (by rw [hxd]; exact hd')
          exact this)]
        exact aPl_done hc post _ _ _ _ _ (fun j hj => by
          simp only [List.mem_append, List.mem_singleton] at hj ⊢
          rcases hj with (h | h) | h
          · exact .inl (.inl h)
          · exact .inr h
          · exact .inl (.inr h)) k2

/-- An act goes ahead of quiet steps. -/
theorem front_act (hc : clo call = call) (hs : Static P ops W) {e : Nat} {oe : Oper} (he : ops[e]? = some oe) (hea : acts oe.op = true) {K : Fr → AMem L → Prop} {post : List PItem} : ∀ (pre : List PItem) (done : List Nat) (pend : Nat → Option (AObj L)) (F : Fr) (σ : AMem L),
    (∀ y ∈ pre, Quiet P ops y ∧ Unrel W y (.op e)) → (∀ j ∈ done, ∀ y ∈ pre, ∀ k, y.idx = some k → W j k = false) → pre.Pairwise (fun x y => ∀ i j, x.idx = some i → y.idx = some j → W i j = false) →
      aPl P call ops base W (pre ++ .op e :: post) done pend F σ K → aPl P call ops base W (.op e :: (pre ++ post)) done pend F σ K
  | [], _, _, _, _, _, _, _, h => h
  | y :: pre, done, pend, F, σ, hp, hd, hord, h => by
    obtain ⟨hy, hu⟩ := hp y (.head _)
    obtain ⟨u, s, h1, h2⟩ := (aPl_quiet hy).1 h
    have hord' := List.pairwise_cons.1 hord
    have h3 := front_act hc hs he hea pre _ _ _ _ (fun z hz => hp z (.tail _ hz)) (fun j hj z hz k hk => by
      simp only [List.mem_append] at hj
      rcases hj with hj | hj
      · exact hd j hj z (.tail _ hz) k hk
      · cases y with
        | op i =>
          simp only [PItem.look, List.mem_singleton] at hj
          subst hj
          exact hord'.1 z hz j k rfl hk
        | mk i => cases hj
        | reveal i => cases hj) hord'.2 h2
    have h4 : aPl P call ops base W (y :: .op e :: (pre ++ post)) done pend F σ K := (aPl_quiet hy).2 ⟨u, s, h1, h3⟩
    exact swap_act hc hs hy he hea hu (fun j hj k hk => hd j hj y (.head _) k hk) h4

end Go.Ax
