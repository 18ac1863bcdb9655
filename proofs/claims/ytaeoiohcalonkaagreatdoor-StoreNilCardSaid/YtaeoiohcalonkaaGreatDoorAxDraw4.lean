/- A region that draws its order: the whole. -/
import Derived.Test.YtaeoiohcalonkaaGreatDoorAxDraw3
set_option linter.unusedVariables false
set_option linter.unusedSimpArgs false
namespace Go.Ax
open Go
variable {L : Type} {P : Program} {ops : Array Oper} {W : Nat → Nat → Bool} {call : Spec L}
variable {rel : Rel P L} {κ κ2 : Kappa} {ρ0 ρ : Rho} {σ0 σ : AMem L} {a0 a : Act} {items A B : List PItem} {pend : Nat → Option (AObj L)} {F : Fr} {w : World} {listed : Array Bool} {K : Fr → AMem L → Prop}

theorem kill_put {b : Nat} {ob : AObj L} (h : σ.get b = none) : (σ.put b σ.next ob).kill b = σ := by
  cases σ with
  | mk nx g =>
    simp only [AMem.kill, AMem.put, AMem.set, AMem.mk.injEq, true_and]
    funext x
    by_cases hx : x = b
    · subst hx; simp; exact h.symm
    · simp [hx]

/-- Behind an operation that was taken. -/
theorem Way.step {x : PItem} {i : Nat} (hx : x.idx = some i) (h : Way rel ops κ ρ0 σ0 a0 (A ++ x :: B) pend F σ ρ κ2 a w) (s : Skel P ops W (A ++ x :: B) listed) {F' : Fr} {σ' : AMem L} {ρ' : Rho} {a' : Act} {w' : World}
    (hle : ρ.le ρ') (hsame : ∀ y, y < σ.next → y ≠ σ0.next + i → ρ' y = ρ y) (hnone : ∀ y, y < σ.next → y ≠ σ0.next + i → σ.get y = none → σ'.get y = none) (hnx : σ.next ≤ σ'.next) (hF : FRel ρ' F' a') (hsz : a'.tmps.size = a.tmps.size) (hdf : a'.defers = a.defers) (hR : rel.R κ2 ρ' σ' w')
    (hhid : PItem.reveal i ∈ A ++ B → pend i = none ∧ σ'.get (σ0.next + i) = none) : Way rel ops κ ρ0 σ0 a0 (A ++ B) pend F' σ' ρ' κ2 a' w' := by
  have up : ∀ {z}, z ∈ A ++ B → z ∈ A ++ x :: B := fun h => mem_mid.2 (.inr h)
  have hlt : i < ops.size := s.lt ⟨x, mem_mid.2 (.inl rfl), hx⟩
  have hN := h.nx
  have hrlt : ∀ {r}, PItem.reveal r ∈ A ++ B → r < ops.size := fun hr => by obtain ⟨o, ho, _⟩ := s.krev _ (up hr); exact lt_of_some ho
  have hρ : ∀ {r}, r ≠ i → r < ops.size → ρ' (σ0.next + r) = ρ (σ0.next + r) := fun h1 h2 => hsame _ (by omega) (by omega)
  refine ⟨h.pe, Rho.le_trans h.le hle, fun y hy => ?_, fun y hy hg => hnone y (by omega) (by omega) (h.none0 y hy hg), by omega, hF, hsz.trans h.sz, hdf.trans h.df, hR, fun j hj => ?_, fun r hr => ?_, fun j hj => h.mkn j (up hj), fun r ob hr hp => ?_, fun r t ob oc lr ls hr ht hpr hpt h1 h2 hb => ?_, fun y => ?_⟩
  · rw [hsame y (by omega) (by omega)]; exact h.same y hy
  · have hji : j ≠ i := fun e => s.not_unl hx (e ▸ hj)
    have hj' := (Skel.unl_mid hx j).2 (.inr hj)
    have hjl := s.lt hj'
    obtain ⟨k1, k2⟩ := h.free j hj'
    exact ⟨hnone _ (by omega) (by omega) k1, by rw [hρ hji hjl]; exact k2⟩
  · by_cases hri : r = i
    · subst hri; exact (hhid hr).2
    · exact hnone _ (by have := hrlt hr; omega) (by omega) (h.hid r (up hr))
  · obtain ⟨l, o, k1, k2, k3, k4, k5⟩ := h.p1 r ob (up hr) hp
    exact ⟨l, o, hle _ _ k1, k2, k3, k4, fun ρ2 w2 hl2 hw2 => k5 ρ2 w2 (Rho.le_trans hle hl2) hw2⟩
  · have hri : r ≠ i := fun e => by subst e; rw [(hhid hr).1] at hpr; cases hpr
    have hti : t ≠ i := fun e => by subst e; rw [(hhid ht).1] at hpt; cases hpt
    rw [hρ hri (hrlt hr)] at h1
    rw [hρ hti (hrlt ht)] at h2
    exact h.p2 r t ob oc lr ls (up hr) (up ht) hpr hpt h1 h2 hb
  · rcases h.p3 y with h' | ⟨r, ob, l, k1, k2, k3, k4⟩
    · exact .inl h'
    · rcases mem_mid.1 k1 with e | k1
      · rw [← e] at hx; cases hx
      · exact .inr ⟨r, ob, l, k1, k2, hle _ _ k3, k4⟩

/-- Behind an operation that made a block. -/
theorem Way.made {i : Nat} (h : Way rel ops κ ρ0 σ0 a0 (A ++ .mk i :: B) pend F σ ρ κ2 a w) (s : Skel P ops W (A ++ .mk i :: B) listed) {F' : Fr} {ob : AObj L} {ρ' : Rho} {a' : Act} {w' : World}
    (hle : ρ.le ρ') (hsame : ∀ y, y < σ.next → y ≠ σ0.next + i → ρ' y = ρ y) (hF : FRel ρ' F' a') (hsz : a'.tmps.size = a.tmps.size) (hdf : a'.defers = a.defers) (hR : rel.R κ2 ρ' (σ.put (σ0.next + i) σ.next ob) w')
    (hol : ob.isLogic = false) (hor : ob.isRo = false) : ∃ κ3, Way rel ops κ ρ0 σ0 a0 (A ++ B) (addPend pend (some i) (some ob)) F' σ ρ' κ3 a' w' := by
  have up : ∀ {z}, z ∈ A ++ B → z ∈ A ++ .mk i :: B := fun h => mem_mid.2 (.inr h)
  have hin : PItem.mk i ∈ A ++ .mk i :: B := mem_mid.2 (.inl rfl)
  have hlt : i < ops.size := s.lt ⟨_, hin, rfl⟩
  have hN := h.nx
  have hrlt : ∀ {r}, PItem.reveal r ∈ A ++ B → r < ops.size := fun hr => by obtain ⟨o, ho, _⟩ := s.krev _ (up hr); exact lt_of_some ho
  have hρ : ∀ {r}, r ≠ i → r < ops.size → ρ' (σ0.next + r) = ρ (σ0.next + r) := fun h1 h2 => hsame _ (by omega) (by omega)
  have hg := (h.free i ⟨_, hin, rfl⟩).1
  have hrev : PItem.reveal i ∈ A ++ B := by
    rcases mem_mid.1 (s.kmk i hin).2 with e | e
    · cases e
    · exact e
  have hgb : (σ.put (σ0.next + i) σ.next ob).get (σ0.next + i) = some ob := by rw [AMem.get_put, if_pos rfl]
  obtain ⟨l, o, h1, h2, h3, h4⟩ := rel.hides hR hgb hol hor
  rw [kill_put hg] at h4
  have hlast : Lasting P ρ' l o ob := by
    obtain ⟨κ', _, hm, _⟩ := rel.opens hR
    obtain ⟨l', k1, k2⟩ := hm.live _ _ hgb hol
    rw [h1] at k1; cases k1
    intro ρ2 w2 hl2 hw2
    exact (k2.mono hl2).of_block (by rw [hw2, h2])
  have hκ : κ l.blk = none := by
    rcases h.p3 l.blk with h' | ⟨r, oc, lr, k1, k2, k3, k4⟩
    · rw [← h']; exact h3
    · obtain ⟨l2, o2, j1, j2, _⟩ := h.p1 r oc k1 k2
      rw [k3] at j1; cases j1
      rw [k4, h3] at j2; cases j2
  have hp : ∀ r, r ≠ i → addPend pend (some i) (some ob) r = pend r := fun r hr => by simp [addPend, setPend, hr]
  have hpi : addPend pend (some i) (some ob) i = some ob := by simp [addPend, setPend]
  -- the blocks that wait lie elsewhere
  have hother : ∀ r oc lr, PItem.reveal r ∈ A ++ B → pend r = some oc → ρ (σ0.next + r) = some lr → lr.blk ≠ l.blk := by
    intro r oc lr k1 k2 k3 e
    obtain ⟨l2, o2, j1, j2, _⟩ := h.p1 r oc (up k1) k2
    rw [k3] at j1; cases j1
    rw [e, h3] at j2; cases j2
  refine ⟨κ2.add l.blk o, h.pe, Rho.le_trans h.le hle, fun y hy => ?_, h.none0, h.nx, hF, hsz.trans h.sz, hdf.trans h.df, h4, fun j hj => ?_, fun r hr => h.hid r (up hr), fun j hj => ?_, fun r oc hr hpr => ?_, fun r t ob' oc lr ls hr ht hpr hpt k1 k2 hb => ?_, fun y => ?_⟩
  · rw [hsame y (by omega) (by omega)]; exact h.same y hy
  · have hji : j ≠ i := fun e => s.not_unl (x := .mk i) rfl (e ▸ hj)
    have hj' := (Skel.unl_mid (x := .mk i) rfl j).2 (.inr hj)
    obtain ⟨k1, k2⟩ := h.free j hj'
    exact ⟨k1, by rw [hρ hji (s.lt hj')]; exact k2⟩
  · have hji : j ≠ i := fun e => s.not_unl (x := .mk i) rfl ⟨.mk i, e ▸ hj, rfl⟩
    rw [hp j hji]; exact h.mkn j (up hj)
  · by_cases hri : r = i
    · subst hri
      rw [hpi] at hpr; cases hpr
      exact ⟨l, o, h1, by simp [Kappa.add], hκ, hol, hlast⟩
    · rw [hp r hri] at hpr
      obtain ⟨lr, or, k1, k2, k3, k4, k5⟩ := h.p1 r oc (up hr) hpr
      refine ⟨lr, or, hle _ _ k1, ?_, k3, k4, fun ρ2 w2 hl2 hw2 => k5 ρ2 w2 (Rho.le_trans hle hl2) hw2⟩
      simp only [Kappa.add]
      rw [if_neg (hother r oc lr hr hpr k1)]; exact k2
  · by_cases hri : r = i
    · by_cases hti : t = i
      · rw [hri, hti]
      · exfalso
        subst hri
        rw [h1] at k1; cases k1
        rw [hp t hti] at hpt
        rw [hρ hti (hrlt ht)] at k2
        exact hother t oc ls ht hpt k2 hb.symm
    · by_cases hti : t = i
      · exfalso
        subst hti
        rw [h1] at k2; cases k2
        rw [hp r hri] at hpr
        rw [hρ hri (hrlt hr)] at k1
        exact hother r _ lr hr hpr k1 hb
      · rw [hp r hri] at hpr
        rw [hp t hti] at hpt
        rw [hρ hri (hrlt hr)] at k1
        rw [hρ hti (hrlt ht)] at k2
        exact h.p2 r t _ _ _ _ (up hr) (up ht) hpr hpt k1 k2 hb
  · by_cases hy : y = l.blk
    · exact .inr ⟨i, ob, l, hrev, hpi, h1, hy.symm⟩
    · simp only [Kappa.add]
      rw [if_neg hy]
      rcases h.p3 y with h' | ⟨r, oc, lr, k1, k2, k3, k4⟩
      · exact .inl h'
      · have hri : r ≠ i := fun e => by subst e; rw [h.mkn r hin] at k2; cases k2
        rcases mem_mid.1 k1 with e | k1
        · cases e
        · exact .inr ⟨r, oc, lr, k1, by rw [hp r hri]; exact k2, hle _ _ k3, k4⟩

structure Facts (P : Program) (ops : Array Oper) (W : Nat → Nat → Bool) : Prop extends Static P ops W where
  edges : ∀ (i : Nat) (o : Oper) (e : Edge), ops[i]? = some o → e ∈ o.after → Region.binds .any e = true → W i e.on = true ∧ e.on < ops.size

theorem wpOp_of {Q : Exit → Act → World → Prop} {i : Nat} {o : Oper} (ho : ops[i]? = some o) {K : Act → World → Prop}
    (h : if Region.wanted o (yielded ops a.tmps) then o.wp P a w K Q else K (a.put o.dst undef) w) : wpOp P ops Q i K a w := by
  unfold wpOp
  simp only [ho]
  split
  · rename_i hw; rw [hw] at h; exact .inl h
  · rename_i hw
    simp only [Bool.not_eq_true] at hw
    rw [hw] at h; exact h

theorem unl_iff {i : Nat} : Unl items i ↔ i ∈ items.filterMap PItem.idx := by
  simp [Unl, List.mem_filterMap]

theorem getD_false_true {a : Array Bool} {i : Nat} (h : a.getD i false = true) : a.getD i true = true := by
  rw [Array.getD_eq_getD_getElem?] at h ⊢
  cases hx : a[i]? with
  | none => rfl
  | some b => rw [hx] at h; simpa using h

theorem getD_true_false {a : Array Bool} {i : Nat} (hi : i < a.size) (h : a.getD i true ≠ false) : a.getD i false = true := by
  rw [Array.getD_eq_getD_getElem?, Array.getElem?_eq_getElem hi] at h ⊢
  simpa using h

theorem any_sound (hsim : Sim rel call) (hc : clo call = call) (hf : Facts P ops W) (hok : ∀ o ∈ ops.toList, okOper a0.tmps.size o = true) {Q : Exit → Fr → AMem L → Prop} : ∀ (fuel : Nat) (listed : Array Bool) (items : List PItem) (pend : Nat → Option (AObj L)) (F : Fr) (σ : AMem L) (ρ : Rho) (κ2 : Kappa) (a : Act) (w : World),
    (items.filterMap PItem.idx).length = fuel → Skel P ops W items listed → Way rel ops κ ρ0 σ0 a0 items pend F σ ρ κ2 a w → aPl P call ops σ0.next W items [] pend F σ (Q .normal) →
      wpAny P .any ops (Ends rel κ ρ0 σ0 a0 Q) fuel listed a w := by
  intro fuel
  induction fuel with
  | zero =>
    intro listed items pend F σ ρ κ2 a w hn s h hp
    have hno : ∀ i, ¬ Unl items i := fun i hi => by
      rw [unl_iff, List.length_eq_zero_iff.1 hn] at hi; cases hi
    refine ⟨?_, finish items σ κ2 hno s h hp⟩
    cases hr : Region.ready .any ops listed with
    | nil => rfl
    | cons i rest =>
      have hi : i ∈ Region.ready .any ops listed := by rw [hr]; exact .head _
      obtain ⟨h1, o, ho, _⟩ := mem_ready.1 hi
      exact absurd ((s.unl i (lt_of_some ho)).1 h1) (hno i)
  | succ fuel ih =>
    intro listed items pend F σ ρ κ2 a w hn s h hp
    refine ⟨fun hnil => ?_, fun i hi => ?_⟩
    · -- the first operation waits for nothing
      exfalso
      cases hfm : items.filterMap PItem.idx with
      | nil => rw [hfm] at hn; cases hn
      | cons i rest =>
        have hi : i ∈ Region.ready .any ops listed := by
          have hun : Unl items i := by rw [unl_iff, hfm]; exact .head _
          obtain ⟨o, ho⟩ : ∃ o, ops[i]? = some o := ⟨_, Array.getElem?_eq_getElem (s.lt hun)⟩
          rw [mem_ready]
          refine ⟨(s.unl i (s.lt hun)).2 hun, o, ho, fun e he hb => ?_⟩
          obtain ⟨hW, hlt⟩ := hf.edges i o e ho he hb
          refine getD_true_false (by rw [s.lsz]; exact hlt) fun hfalse => ?_
          have hun2 := (s.unl e.on hlt).1 hfalse
          have hpw : (items.filterMap PItem.idx).Pairwise (fun i j => W i j = false) := by
            rw [List.pairwise_filterMap]
            exact s.pw.imp fun hb i hi j hj => (hb.1 i j hi hj).2.1
          rw [hfm] at hpw
          rw [unl_iff, hfm] at hun2
          rcases List.mem_cons.1 hun2 with e1 | e1
          · rw [e1, hf.irrefl] at hW; cases hW
          · rw [(List.pairwise_cons.1 hpw).1 _ e1] at hW; cases hW
        rw [hnil] at hi; cases hi
    · obtain ⟨h1, o, ho, hdeps⟩ := mem_ready.1 hi
      have hil := lt_of_some ho
      obtain ⟨x, hxm, hx⟩ := (s.unl i hil).1 h1
      obtain ⟨A, B, rfl⟩ := List.append_of_mem hxm
      have hnot : ∀ k, listed.getD k false = true → ¬ Unl (A ++ x :: B) k := fun k hk hun => by
        have := (s.unl k (s.lt hun)).2 hun
        rw [getD_false_true hk] at this; cases this
      have hwait : ∀ k, W i k = true → ¬ Unl (A ++ x :: B) k := by
        intro k hk
        obtain ⟨o', e, ho', he, hb, hor⟩ := hf.closed i k hk
        rw [ho] at ho'; cases ho'
        rcases hor with rfl | hor
        · exact hnot _ (hdeps e he hb)
        · exact s.closed e.on k (hf.edges i o e ho he hb).2 (hnot _ (hdeps e he hb)) hor
      obtain ⟨A', σ', κ2', s', hw', hway, hp', hq, hfm⟩ := stage hx A.length A σ κ2 rfl s hwait h hp
      have hlen : ((A' ++ B).filterMap PItem.idx).length = fuel := by
        simp only [List.filterMap_append, List.filterMap_cons, hx, List.length_append, List.length_cons] at hn ⊢
        rw [hfm]; omega
      have snew := s'.drop hx hw'
      have hoin : o ∈ ops.toList := List.mem_of_getElem? (by rw [Array.getElem?_toList]; exact ho)
      have hoko : okOper a.tmps.size o = true := by rw [hway.sz]; exact hok o hoin
      have hfree0 := hway.free i ⟨x, mem_mid.2 (.inl rfl), hx⟩
      have hfree : Free ρ σ' (σ0.next + i) σ'.next := ⟨hfree0.1, hfree0.2, Nat.le_refl _, by have := hway.nx; omega⟩
      -- an operation that makes no block
      have key : ∀ (_ : PItem.reveal i ∈ A' ++ B → pend i = none ∧ aStep P call ops o F σ' (σ0.next + i) σ'.next (fun _ σ2 => σ2 = σ')), aStep P call ops o F σ' (σ0.next + i) σ'.next (fun F2 σ2 => aPl P call ops σ0.next W (A' ++ B) [] pend F2 σ2 (Q .normal) ∧ (PItem.reveal i ∈ A' ++ B → σ2 = σ')) →
          wpOp P ops (Ends rel κ ρ0 σ0 a0 Q) i (wpAny P .any ops (Ends rel κ ρ0 σ0 a0 Q) fuel (listed.setIfInBounds i true)) a w := by
        intro hrev hst
        refine wpOp_of ho (step_sound (a := a) hsim hst hoko hway.fr hway.R hfree fun F2 σ2 ρ2 a2 w2 hK hle hsame hnone hnx hF hsz hdf hR => ?_)
        refine ih _ (A' ++ B) pend F2 σ2 ρ2 κ2' a2 w2 hlen snew (Way.step hx hway s' hle hsame hnone hnx hF hsz hdf hR fun hr => ⟨(hrev hr).1, ?_⟩) hK.1
        rw [hK.2 hr]; exact hfree0.1
      cases x with
      | reveal r => cases hx
      | op i' =>
        cases hx
        obtain ⟨o', ho', hm⟩ := s'.kop i (mem_mid.2 (.inl rfl))
        rw [ho] at ho'; cases ho'
        have hnr : PItem.reveal i ∉ A' ++ B := fun hr => by
          obtain ⟨o2, ho2, hm2⟩ := s'.krev i (mem_mid.2 (.inr hr))
          rw [ho] at ho2; cases ho2
          rw [hm] at hm2; cases hm2
        refine key (fun hr => absurd hr hnr) ?_
        cases ha : acts o.op with
        | true =>
          have hpa := front_act hc hf.toStatic ho ha A' [] pend F σ' (fun y hy => ⟨(hq y hy).1, (hq y hy).2.symm⟩) (fun _ hj => by cases hj)
            (by
              have := (List.pairwise_append.1 s'.pw).1
              exact this.imp fun hb i j hi hj => (hb.1 i j hi hj).2.1) hp'
          simp only [aPl, ho] at hpa
          exact aStep_mono hc hpa fun F2 σ2 hh => ⟨aPl_done hc _ _ _ _ _ _ (fun _ hj => by cases hj) hh.2, fun hr => absurd hr hnr⟩
        | false =>
          have hQ : Quiet P ops (.op i) := ⟨o, ho, ha, hm⟩
          obtain ⟨v, r, k1, k2⟩ := front_quiet hc hf.toStatic hQ A' [] pend F σ' hq hp'
          rw [quiet_step ho ha F σ' _ (fun v σ2 h => quiet_same ha hm h)]
          have hr : r = none := by
            simp only [qRes, ho] at k1
            split at k1
            · cases k1
            · cases k1; rfl
            · obtain ⟨p, _, hp⟩ := Option.map_eq_some_iff.1 k1; cases hp; rfl
          subst hr
          refine ⟨v, none, k1, rfl, ?_, fun hr => absurd hr hnr⟩
          simpa [PItem.dst, PItem.idx, ho, addPend] using k2
      | mk i' =>
        cases hx
        have hin : PItem.mk i ∈ A' ++ PItem.mk i :: B := mem_mid.2 (.inl rfl)
        obtain ⟨⟨o', ho', hm, hl, ha⟩, hrin⟩ := s'.kmk i hin
        rw [ho] at ho'; cases ho'
        have hQ : Quiet P ops (.mk i) := ⟨o, ho, hm, hl, ha⟩
        obtain ⟨v, r, k1, k2⟩ := front_quiet hc hf.toStatic hQ A' [] pend F σ' hq hp'
        have hnc : ∀ f args at', o.op ≠ .call { callee := .value f, args := args, argTypes := at' } := fun f args at' e => by rw [e] at ha; simp [acts] at ha
        simp only [PItem.dst, PItem.idx, ho, Option.bind_some] at k2
        simp only [qRes, ho] at k1
        split at k1
        · cases k1
        · rename_i hwant
          cases k1
          refine key (fun _ => ⟨hway.mkn i hin, ?_⟩) ?_
          · rw [aStep_noCall hnc, hwant]
          · rw [aStep_noCall hnc, hwant]
            exact ⟨by simpa [addPend] using k2, fun _ => rfl⟩
        · rename_i hwant
          obtain ⟨p, hp1, hp2⟩ := Option.map_eq_some_iff.1 k1
          obtain ⟨v', ob⟩ := p
          cases hp2
          obtain ⟨g1, g2, g3⟩ := makes_indep hm hl hp1
          have hst : aStep P call ops o F σ' (σ0.next + i) σ'.next (fun F2 σ2 => F2 = Fr.put F o.dst v' ∧ σ2 = σ'.put (σ0.next + i) σ'.next ob) := by
            rw [aStep_noCall hnc, hwant]
            simp only [g3, and_self]
          refine wpOp_of ho (step_sound (a := a) hsim hst hoko hway.fr hway.R hfree fun F2 σ2 ρ2 a2 w2 hK hle hsame hnone hnx hF hsz hdf hR => ?_)
          obtain ⟨rfl, rfl⟩ := hK
          obtain ⟨κ3, hway'⟩ := Way.made hway s' hle hsame hF hsz hdf hR g1 g2
          exact ih _ (A' ++ B) _ _ σ' ρ2 κ3 a2 w2 hlen snew hway' k2

end Go.Ax
