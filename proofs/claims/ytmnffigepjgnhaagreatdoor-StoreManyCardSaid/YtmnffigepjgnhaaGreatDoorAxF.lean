/- Rounds over a map: whatever order the entries come in. -/
import Derived.Test.YtmnffigepjgnhaaGreatDoorAxD
import Derived.Maps.RangeRun
import Derived.Test.YtmnffigepjgnhaaGreatDoorAxE
import Derived.ProofKit
import Derived.OpenShut
import Derived.Deep.DeepHandedRow
import Derived.LaidMore
set_option linter.unusedVariables false
set_option linter.unusedSimpArgs false
namespace Go.Ax
open Go
variable {L : Type} {P : Program} {rel : Rel P L} {call : Spec L} {κ : Kappa} {ρ : Rho} {σ : AMem L} {w : World}

/-- The parts of 'for k, v := range m', m a map. -/
structure RangeParts where
  r0 : Nat
  pre : List Oper
  rop : Oper
  rt : TypeId
  rx : Operand
  it : Nat
  b0 : Nat
  r1 : Nat
  nop : Oper
  nx : Nat
  xop : Oper
  ok : Nat
  b1 : Nat
  r4 : Nat
  eop : Oper
  en : Nat
  ops4 : List Oper
  body : Code

def RangeParts.loop (p : RangeParts) : Code := .seq (.region p.r1 #[p.nop, p.xop] false) (.seq (.cond (.tmp p.ok) .skip (.exit p.b0)) (.block p.b1 (.seq (.region p.r4 (p.eop :: p.ops4).toArray false) p.body)))
def RangeParts.code (p : RangeParts) : Code := .seq (.region p.r0 (p.pre ++ [p.rop]).toArray false) (.block p.b0 (.loop p.loop))

structure RangeParts.Fit (p : RangeParts) : Prop where
  rop : p.rop.op = .range p.rt p.rx ∧ p.rop.dst = some p.it ∧ p.rop.guard = none
  nop : p.nop.op = .next (.tmp p.it) false ∧ p.nop.dst = some p.nx ∧ p.nop.guard = none
  xop : p.xop.op = .extract (.tmp p.nx) 0 ∧ p.xop.dst = some p.ok ∧ p.xop.guard = none
  eop : p.eop.op = .entry (.tmp p.it) ∧ p.eop.dst = some p.en ∧ p.eop.guard = none
  ne : p.nx ≠ p.it ∧ p.ok ≠ p.it ∧ p.en ≠ p.it ∧ p.ok ≠ p.nx

/-- How a round may end. -/
def aRound (I : Fr → AMem L → Prop) (b1 : Nat) : Exit → Fr → AMem L → Prop
  | .normal, F, σ => I F σ
  | .exit id, F, σ => id = b1 ∧ I F σ
  | _, _, _ => False

/-- What the rounds do. -/
def aRange (P : Program) (call : Spec L) (plans : Plans) (p : RangeParts) (K : Fr → AMem L → Prop) (F : Fr) (σ : AMem L) : Prop :=
  aOps P call (p.pre ++ [p.rop]).toArray p.pre F σ fun F1 σ1 => ∃ b es, aEval F1 p.rx = .map (some b) ∧ σ1.get b = some (.map es) ∧ (∃ k e, P.underlying p.rt = some (.map k e)) ∧
    ∃ (I : List (Value × Value) → Fr → AMem L → Prop),
      I es (Fr.put F1 (some p.it) (.pointer (some ⟨σ1.next, 0, none⟩))) ((σ1.skipTo (σ1.next + 1)).kill b) ∧
      (∀ l1 kv l2 F2 σ2, I (l1 ++ kv :: l2) F2 σ2 → aOps P call (p.eop :: p.ops4).toArray p.ops4 (Fr.put (Fr.put (Fr.put F2 (some p.nx) undef) (some p.ok) undef) (some p.en) (.tuple #[kv.1, kv.2])) σ2 fun F3 σ3 =>
        aCode P call plans p.body (aRound (fun F4 σ4 => F4 p.it = .pointer (some ⟨σ1.next, 0, none⟩) ∧ I (l1 ++ l2) F4 σ4) p.b1) F3 σ3) ∧
      (∀ F2 σ2, I [] F2 σ2 → σ1.next < σ2.next → K (Fr.put (Fr.put F2 (some p.nx) undef) (some p.ok) undef) (σ2.put b σ2.next (.map es)))

/-- The first of a region's operations; what comes behind them told by itself. -/
theorem ops_sound_to (hsim : Sim rel call) {ops : Array Oper} {K : Fr → AMem L → Prop} {QQ : Exit → Act → World → Prop} {rest : List Nat} {ρ0 : Rho} {σ0 : AMem L} {a0 : Act}
    (hend : ∀ F σ ρ a w, K F σ → ρ0.le ρ → (∀ x, x < σ0.next → ρ x = ρ0 x) → (∀ x, x < σ0.next → σ0.get x = none → σ.get x = none) → σ0.next ≤ σ.next → FRel ρ F a → a.tmps.size = a0.tmps.size → a.defers = a0.defers → rel.R κ ρ σ w → wpOps P ops QQ rest a w) :
    ∀ (l : List Oper) (k : Nat), (∀ j, j < l.length → l[j]? = ops[k + j]?) → (∀ o ∈ l, okOper a0.tmps.size o = true) →
    ∀ (F : Fr) (σ : AMem L) (ρ : Rho) (a : Act) (w : World), aOps P call ops l F σ K → ρ0.le ρ → (∀ x, x < σ0.next → ρ x = ρ0 x) → (∀ x, x < σ0.next → σ0.get x = none → σ.get x = none) → σ0.next ≤ σ.next → FRel ρ F a → a.tmps.size = a0.tmps.size → a.defers = a0.defers → rel.R κ ρ σ w →
      wpOps P ops QQ (List.range' k l.length ++ rest) a w
  | [], k, _, _, F, σ, ρ, a, w, h, h1, h2, h8, h3, h4, h5, h6, h7 => hend F σ ρ a w h h1 h2 h8 h3 h4 h5 h6 h7
  | o :: l, k, hl, hok, F, σ, ρ, a, w, h, h1, h2, h8, h3, h4, h5, h6, h7 => by
    have hk : ops[k]? = some o := by have := hl 0 (by simp); simpa using this.symm
    simp only [List.length_cons, List.range'_succ, List.cons_append, wpOps, hk]
    have := step_sound (a := a) (next := wpOps P ops QQ (List.range' (k + 1) l.length ++ rest)) (Q := QQ) hsim (by exact h) (by rw [h5]; exact hok o (.head _)) h4 h7 (Rel.free h7)
      (fun F' σ' ρ' a' w' hK hle hsame hnone hnx hF' hsz hdf hR' => by
        refine ops_sound_to hsim hend l (k + 1) (fun j hj => ?_) (fun o ho => hok o (.tail _ ho)) F' σ' ρ' a' w' hK (Rho.le_trans h1 hle) (fun x hx => ?_) (fun x hx hg => hnone x (by omega) (by omega) (h8 x hx hg)) (by omega) hF' (by rw [hsz, h5]) (by rw [hdf, h6]) hR'
        · have := hl (j + 1) (by simp; omega); simp only [List.getElem?_cons_succ] at this; rw [this]; congr 1; omega
        · rw [hsame x (by omega) (by omega)]; exact h2 x hx)
    split
    · rename_i hw; rw [hw] at this; exact .inl this
    · rename_i hw
      simp only [Bool.not_eq_true] at hw
      rw [hw] at this; exact this

theorem Rel.draw (hR : rel.R κ ρ σ w) : rel.R κ ρ σ w.drew := by
  obtain ⟨κ', _, hm, hclose⟩ := rel.opens hR
  exact hclose ρ σ w.drew ρ.le_refl ⟨hm.live, hm.inj, hm.fresh, hm.old, hm.kept, hm.apart, hm.env⟩ (SameLogic.refl σ) (Nat.le_refl _)

/-- The entries that are left, beside what the abstract side says of them. -/
def Left (ρ : Rho) (l : List (Value × Value)) (left : List MapEntry) : Prop :=
  ∃ l' : List (Value × Value), l'.Perm l ∧ l'.length = left.length ∧ ∀ (i : Nat) (kv : Value × Value) (e : MapEntry), l'[i]? = some kv → left[i]? = some e → e.key = kv.1 ∧ VRel ρ kv.2 e.val ∧ keyFlat kv.1 = true

theorem Left.mono {ρ ρ' : Rho} (h : ρ.le ρ') {l : List (Value × Value)} {left : List MapEntry} (hl : Left ρ l left) : Left ρ' l left := by
  obtain ⟨l', h1, h2, h3⟩ := hl
  exact ⟨l', h1, h2, fun i kv e a b => let ⟨x, y, z⟩ := h3 i kv e a b; ⟨x, y.mono h, z⟩⟩

theorem Left.nil {l : List (Value × Value)} (h : Left ρ l []) : l = [] := by
  obtain ⟨l', h1, h2, _⟩ := h
  have : l' = [] := List.eq_nil_of_length_eq_zero h2
  subst this
  exact List.nil_perm.1 h1

theorem cons_eraseIdx_perm {α : Type} : ∀ (l : List α) (j : Nat) (h : j < l.length), (l[j] :: l.eraseIdx j).Perm l
  | x :: l, 0, _ => by simp
  | x :: l, j + 1, h => by
    simp only [List.getElem_cons_succ, List.eraseIdx_cons_succ]
    exact (List.Perm.swap x _ _).trans ((cons_eraseIdx_perm l j (by simpa using h)).cons x)

theorem Left.take {l : List (Value × Value)} {left : List MapEntry} (h : Left ρ l left) {j : Nat} {e : MapEntry} (he : left[j]? = some e) :
    ∃ l1 kv l2, l = l1 ++ kv :: l2 ∧ e.key = kv.1 ∧ VRel ρ kv.2 e.val ∧ keyFlat kv.1 = true ∧ Left ρ (l1 ++ l2) (left.eraseIdx j) := by
  obtain ⟨l', h1, h2, h3⟩ := h
  have hj : j < left.length := (List.getElem?_eq_some_iff.1 he).1
  have hj' : j < l'.length := by omega
  have hg : l'[j]? = some l'[j] := List.getElem?_eq_getElem hj'
  obtain ⟨hk, hv, hkf⟩ := h3 j _ e hg he
  obtain ⟨l1, l2, hl⟩ := List.append_of_mem (h1.mem_iff.1 (List.getElem_mem hj'))
  refine ⟨l1, l'[j], l2, hl, hk, hv, hkf, l'.eraseIdx j, ?_, by rw [List.length_eraseIdx_of_lt hj', List.length_eraseIdx_of_lt hj, h2], fun i kv x hi hx => ?_⟩
  · have e1 : (l'[j] :: l'.eraseIdx j).Perm l' := cons_eraseIdx_perm l' j hj'
    have e2 : (l'[j] :: (l1 ++ l2)).Perm l := by rw [hl]; exact List.perm_middle.symm
    exact List.Perm.cons_inv (e1.trans (h1.trans e2.symm))
  · rw [List.getElem?_eraseIdx] at hi hx
    split at hi
    · rename_i hlt; rw [if_pos hlt] at hx; exact h3 i kv x hi hx
    · rename_i hlt; rw [if_neg hlt] at hx; exact h3 (i + 1) kv x hi hx

/-- Behind one more entry. -/
theorem leftOf_push {es : Array MapEntry} {seen : Array Nat} (hn : (es.toList.map (·.born)).Nodup) {e : MapEntry} (he : e ∈ (leftOf es seen).toList) :
    ∃ j, (leftOf es seen).toList[j]? = some e ∧ (leftOf es (seen.push e.born)).toList = (leftOf es seen).toList.eraseIdx j := by
  have h1 : (leftOf es seen).toList = es.toList.filter fun x => !seen.contains x.born := by unfold leftOf; rw [Array.toList_filter]
  have h2 : (leftOf es (seen.push e.born)).toList = (leftOf es seen).toList.filter fun x => !(x.born == e.born) := by
    unfold leftOf
    rw [Array.toList_filter, Array.toList_filter, List.filter_filter]
    congr 1
    funext x
    rw [contains_push]
    cases seen.contains x.born <;> cases x.born == e.born <;> rfl
  have h3 : ((leftOf es seen).toList.map (·.born)).Nodup := by
    rw [h1]
    exact hn.sublist ((List.filter_sublist).map _)
  rw [h2]
  generalize (leftOf es seen).toList = l at he h3
  clear h1 h2 hn
  induction l with
  | nil => cases he
  | cons x l ih =>
    have hnd := List.nodup_cons.1 h3
    by_cases hx : x = e
    · subst hx
      refine ⟨0, rfl, ?_⟩
      simp only [List.filter_cons, beq_self_eq_true, Bool.not_true, Bool.false_eq_true, if_false, List.eraseIdx_cons_zero]
      refine List.filter_eq_self.2 fun y hy => ?_
      have : y.born ≠ x.born := fun e => hnd.1 (by simp only; rw [← e]; exact List.mem_map_of_mem hy)
      simpa using this
    · have he' : e ∈ l := by rcases List.mem_cons.1 he with h | h; · exact absurd h.symm hx
                             · exact h
      obtain ⟨j, hj, hf⟩ := ih he' hnd.2
      refine ⟨j + 1, by simpa using hj, ?_⟩
      have hb : x.born ≠ e.born := fun e' => hnd.1 (by simp only; rw [e']; exact List.mem_map_of_mem he')
      have hb' : (!(x.born == e.born)) = true := by simpa using hb
      simp only [List.filter_cons, hb', if_true, List.eraseIdx_cons_succ, hf]

theorem wpOps_step {ops : Array Oper} {QQ : Exit → Act → World → Prop} {i : Nat} {rest : List Nat} {a : Act} {w w' : World} {o : Oper} {v : Value} (ho : ops[i]? = some o) (hg : o.guard = none)
    (hrun : (execOp a.eval o).run P w = .ok (.value v) w') (h : wpOps P ops QQ rest (a.put o.dst v) w') : wpOps P ops QQ (i :: rest) a w := by
  simp only [wpOps, ho]
  have hw : Region.wanted o (yielded ops a.tmps) = true := by unfold Region.wanted; rw [hg]
  rw [if_pos hw]
  refine .inl ?_
  unfold Oper.wp
  rw [hrun, Oper.upon_value]
  exact h

theorem Act.getD_put {a : Act} {d : Nat} {v : Value} (hd : d < a.tmps.size) (i : Nat) : (a.put (some d) v).tmps.getD i undef = if i = d then v else a.tmps.getD i undef := by
  simp only [Act.put]
  rw [Array.getD_eq_getD_getElem?, Array.getElem?_setIfInBounds]
  by_cases hi : i = d
  · subst hi; rw [if_pos rfl, if_pos hd, if_pos rfl]; rfl
  · rw [if_neg hi, if_neg (fun e => hi e.symm), Array.getD_eq_getD_getElem?]

theorem Act.eval_put_same {a : Act} {d : Nat} {v : Value} (hd : d < a.tmps.size) : (a.put (some d) v).eval (.tmp d) = v := by
  show (a.put (some d) v).tmps.getD d undef = v
  rw [Act.getD_put hd, if_pos rfl]
theorem Act.eval_put_other {a : Act} {d i : Nat} {v : Value} (hd : d < a.tmps.size) (h : i ≠ d) : (a.put (some d) v).eval (.tmp i) = a.eval (.tmp i) := by
  show (a.put (some d) v).tmps.getD i undef = a.tmps.getD i undef
  rw [Act.getD_put hd, if_neg h]

theorem QThen {X : Exit → Act → World → Prop} {next : Act → World → Prop} {e : Exit} {a : Act} {w : World} (h1 : e = .normal → next a w) (h2 : e ≠ .normal → X e a w) : Exit.then next X e a w := by
  cases e with
  | normal => exact h1 rfl
  | _ => exact h2 (by simp)

set_option maxHeartbeats 2000000 in
theorem range_sound (hsim : Sim rel call) {pok : PlanOk} (hdraw : DrawSound rel call pok) {plans : Plans} {p : RangeParts} (hp : p.Fit) {K : Fr → AMem L → Prop} {F : Fr} {a : Act}
    (hpre : ∀ o ∈ p.pre, okOper a.tmps.size o = true) (hrx : okOperand p.rx = true) (hops4 : ∀ o ∈ p.ops4, okOper a.tmps.size o = true) (hbody : codeOk pok plans a.tmps.size p.body = true)
    (hit : p.it < a.tmps.size) (hnx : p.nx < a.tmps.size) (hxk : p.ok < a.tmps.size) (hen : p.en < a.tmps.size)
    (h : aRange P call plans p K F σ) (hF : FRel ρ F a) (hR : rel.R κ ρ σ w) {Q : Exit → Fr → AMem L → Prop} (hQ : ∀ F σ, K F σ → Q .normal F σ) : p.code.wp P (Ends rel κ ρ σ a Q) a w := by
  unfold aRange at h
  refine wp_seq (wp_region ?_)
  have hsz : (p.pre ++ [p.rop]).toArray.size = p.pre.length + 1 := by simp
  rw [hsz, List.range_succ, List.range_eq_range']
  refine ops_sound_to (ρ0 := ρ) (σ0 := σ) (a0 := a) hsim (fun F1 σ1 ρ1 a1 w1 hK k2 k3 k9 k4 k5 k6 k7 k8 => ?_) p.pre 0 (fun j hj => by simp [List.getElem?_append_left hj]) hpre F σ ρ a w h ρ.le_refl (fun _ _ => rfl) (fun _ _ h => h) (Nat.le_refl _) hF rfl rfl hR
  obtain ⟨b, es, hx, hb, ⟨kt, et, hut⟩, I, hI0, hround, hend⟩ := hK
  have hv := eval_rel k5 hrx
  rw [hx] at hv
  obtain ⟨lb, hlb, hxv⟩ := hv.map_inv
  obtain ⟨κ', hκ', hm1, hclose⟩ := rel.opens k8
  obtain ⟨lb', hlb', hor⟩ := hm1.live b _ hb rfl
  rw [hlb] at hlb'; cases hlb'
  obtain ⟨ces, clock, hces, hst, hnd, hkf, es', hperm, hlen, hal⟩ := hor
  have hblt : lb.blk < w1.heap.size := hm1.old b lb hlb
  have hbn : b < σ1.next := by
    rcases Nat.lt_or_ge b σ1.next with h | h
    · exact h
    · rw [(hm1.fresh b h).1] at hb; cases hb
  refine wpOps_step (w' := w1.alloc (.mapIter (some lb.blk) clock #[] clock)) (v := .pointer (some ⟨w1.heap.size, 0, none⟩)) (o := p.rop) (by simp) hp.rop.2.2 (by
    simp only [execOp, hp.rop.1, hxv]
    simp [run_range_map w1 p.rt kt et lb.blk ces clock hut hces]) ?_
  show Exit.then _ _ .normal _ _
  -- the loop
  have hit1 : p.it < a1.tmps.size := by rw [k6]; exact hit
  refine wp_block ?_
  have hR2 := rel.iters (.mapIter (some lb.blk) clock #[] clock) k8
  have hfr : ρ1 σ1.next = none := (hm1.fresh _ (Nat.le_refl _)).2
  have hle2 : ρ1.le (ρ1.add σ1.next ⟨w1.heap.size, 0, 1, 1⟩) := Rho.le_add _ hfr
  have hb2 : (σ1.skipTo (σ1.next + 1)).get b = some (.map es) := hb
  obtain ⟨l2, ob, hl2, hob, hκ2, hR3⟩ := rel.hides hR2 hb2 rfl rfl
  rw [ρ1.add_ne _ (Nat.ne_of_lt hbn), hlb] at hl2; cases hl2
  have hob' : ob = .map ces clock := by
    have : (w1.alloc (.mapIter (some lb.blk) clock #[] clock)).heap[lb.blk]? = w1.heap[lb.blk]? := by
      show (w1.heap.push _)[lb.blk]? = _
      rw [Array.getElem?_push_lt hblt, Array.getElem?_eq_getElem hblt]
    rw [this, hces] at hob; cases hob; rfl
  subst hob'
  have hκb : κ lb.blk = none := by
    dsimp only [Kappa.add] at hκ2
    split at hκ2
    · cases hκ2
    · exact hκ2
  generalize hr : w1.heap.size = r at *
  have hrb : r ≠ lb.blk := by omega
  have hκr : κ r = none := by
    cases hk : κ r with
    | none => rfl
    | some o => have := hm1.kept r o (hκ' r o hk); rw [Array.getElem?_eq_none (by omega)] at this; cases this
  have hlf0 : leftOf ces #[] = ces := by unfold leftOf; simp
  refine wp_loop_idx (fun n a' w' => ∃ l F2 σ2 ρ2 seen c0, n = (leftOf ces seen).size ∧ I l F2 σ2 ∧ F2 p.it = .pointer (some ⟨σ1.next, 0, none⟩) ∧ Left ρ2 l (leftOf ces seen).toList ∧ clock ≤ c0 ∧
      (ρ1.add σ1.next ⟨r, 0, 1, 1⟩).le ρ2 ∧ (∀ x, x < σ1.next + 1 → ρ2 x = (ρ1.add σ1.next ⟨r, 0, 1, 1⟩) x) ∧ (∀ x, x < σ1.next + 1 → ((σ1.skipTo (σ1.next + 1)).kill b).get x = none → σ2.get x = none) ∧ σ1.next + 1 ≤ σ2.next ∧ FRel ρ2 F2 a' ∧
      a'.tmps.size = a.tmps.size ∧ a'.defers = a.defers ∧ rel.R ((κ.add r (.mapIter (some lb.blk) clock seen c0)).add lb.blk (.map ces clock)) ρ2 σ2 w')
    ⟨_, es, Fr.put F1 (some p.it) (.pointer (some ⟨σ1.next, 0, none⟩)), _, ρ1.add σ1.next ⟨r, 0, 1, 1⟩, #[], clock, rfl, hI0, by simp [Fr.put, Fr.set], ?_, Nat.le_refl _, Rho.le_refl _, fun _ _ => rfl, fun _ _ h => h, Nat.le_refl _, ?_, ?_, ?_, hR3⟩ ?_
  · rw [hlf0]
    exact ⟨es', hperm, by simpa using hlen, fun i kv e h1 h2 => let ⟨x, y⟩ := hal i kv e h1 (by simpa using h2); ⟨x, y.mono hle2, hkf kv.1 (List.mem_map_of_mem (hperm.mem_iff.1 (List.mem_of_getElem? h1)))⟩⟩
  · rw [hp.rop.2.1]
    refine (k5.mono hle2).put ?_ (fun x hx => by cases hx; exact hit1)
    have := VRel.ptr (ρ := ρ1.add σ1.next ⟨r, 0, 1, 1⟩) (b := σ1.next) (off := 0) (ρ1.add_at _ _)
    simpa using this
  · rw [Act.put_size]; exact k6
  · rw [hp.rop.2.1]; exact k7
  -- one round
  rintro n a2 w2 ⟨l, F2, σ2, ρ2, seen, c0, rfl, hI, hFit, hleft, hc0, j2, j3, j9, j4, j5, j6, j7, j8⟩
  obtain ⟨κ2, hκ2', hm2, hclose2⟩ := rel.opens j8
  have hitv : a2.eval (.tmp p.it) = .pointer (some ⟨r, 0, none⟩) := by
    have h1 := j5 p.it
    rw [hFit] at h1
    obtain ⟨lx, hlx, _, hvx⟩ := h1.ptr_inv
    have h2 := j2 σ1.next _ (ρ1.add_at _ _)
    simp only at hlx
    rw [h2] at hlx; cases hlx
    show a2.tmps.getD p.it undef = _
    rw [hvx]; rfl
  have hri : w2.heap[r]? = some (.mapIter (some lb.blk) clock seen c0) := hm2.kept r _ (hκ2' _ _ (by dsimp only [Kappa.add]; rw [if_neg hrb, if_pos rfl]))
  have hbi : w2.heap[lb.blk]? = some (.map ces clock) := hm2.kept lb.blk _ (hκ2' _ _ (by dsimp only [Kappa.add]; rw [if_pos rfl]))
  have hnx2 : p.nx < a2.tmps.size := by rw [j6]; exact hnx
  have hok2 : p.ok < a2.tmps.size := by rw [j6]; exact hxk
  refine wp_seq (wp_region ?_)
  have hsz1 : List.range (#[p.nop, p.xop] : Array Oper).size = [0, 1] := rfl
  rw [hsz1]
  rcases run_next_at (P := P) w2 p.nop.type r lb.blk clock c0 seen ces clock hri hbi hst.1 hc0 with ⟨hz, hrun⟩ | ⟨e, he, w3, hw3, hrun⟩
  · -- over
    refine wpOps_step (w' := w2) (v := .tuple #[.bool false]) (o := p.nop) rfl hp.nop.2.2 (by simp only [execOp, hp.nop.1, hitv]; simp [hrun]) ?_
    rw [hp.nop.2.1]
    refine wpOps_step (w' := w2) (v := .bool false) (o := p.xop) rfl hp.xop.2.2 (by simp only [execOp, hp.xop.1, Act.eval_put_same hnx2]; simp [Instr.extract]) ?_
    rw [hp.xop.2.1]
    show Exit.then _ _ .normal _ _
    have hok3 : p.ok < (a2.put (some p.nx) (.tuple #[.bool false])).tmps.size := by rw [Act.put_size]; exact hok2
    refine wp_seq (wp_cond_false (Act.eval_put_same hok3) (wp_exit ?_))
    have hl0 : l = [] := by
      have : (leftOf ces seen).toList = [] := by
        apply List.eq_nil_of_length_eq_zero; simpa using hz
      rw [this] at hleft
      exact hleft.nil
    subst hl0
    show Exit.inBlock p.b0 _ (.exit p.b0) _ _
    simp only [Exit.inBlock, if_true]
    have hK := hend F2 σ2 hI (by omega)
    have hg2 : σ2.get b = none := j9 b (by omega) (by rw [AMem.get_kill, if_pos rfl])
    have hρ2b : ρ2 b = some lb := by rw [j3 b (by omega), ρ1.add_ne _ (Nat.ne_of_lt hbn), hlb]
    have hor2 : ORel P ρ2 w2 lb (.map es : AObj L) := ⟨ces, clock, hbi, hst, hnd, hkf, es', hperm, hlen, fun i kv e h1 h2 => let ⟨x, y⟩ := hal i kv e h1 h2; ⟨x, (y.mono hle2).mono j2⟩⟩
    have hR4 := rel.shows (nx := σ2.next) j8 (by dsimp only [Kappa.add]; rw [if_pos rfl]) hρ2b hg2 (by omega) (Nat.le_refl _) rfl hor2
    have hκe : ((κ.add r (.mapIter (some lb.blk) clock seen c0)).add lb.blk (.map ces clock)).del lb.blk = κ.add r (.mapIter (some lb.blk) clock seen c0) := by
      refine Kappa.same (fun x => ?_) rfl
      dsimp only [Kappa.del, Kappa.add]
      by_cases hxb : x = lb.blk
      · subst hxb; rw [if_pos rfl, if_neg (fun e => hrb e.symm), hκb]
      · rw [if_neg hxb, if_neg hxb]
    rw [hκe] at hR4
    have hR5 := rel.drops hR4 hκr
    refine ⟨_, _, ρ2, hQ _ _ hK, Rho.le_trans k2 (Rho.le_trans hle2 j2), fun x hx => ?_, fun x hx hg => ?_, ?_, ?_, ?_, ?_, hR5⟩
    · rw [j3 x (by omega), ρ1.add_ne _ (by omega)]; exact k3 x hx
    · rw [AMem.get_put]
      have hg1 := k9 x hx hg
      have hxb : x ≠ b := fun e => by rw [e, hb] at hg1; cases hg1
      rw [if_neg hxb]
      refine j9 x (by omega) ?_
      rw [AMem.get_kill, if_neg hxb]; exact hg1
    · show σ.next ≤ σ2.next; omega
    · exact (j5.put (.any _) (fun x hx => by cases hx; exact hnx2)).put (.any _) (fun x hx => by cases hx; exact hok3)
    · rw [Act.put_size, Act.put_size]; exact j6
    · exact j7
  · -- an entry
    have hw3h : w3.heap = w2.heap := by rcases hw3 with rfl | rfl <;> rfl
    have hR3' : rel.R ((κ.add r (.mapIter (some lb.blk) clock seen c0)).add lb.blk (.map ces clock)) ρ2 σ2 w3 := by
      rcases hw3 with rfl | rfl
      · exact j8
      · exact Rel.draw j8
    refine wpOps_step (w' := ChangeMaps.setBlock w3 r (.mapIter (some lb.blk) clock (seen.push e.born) clock)) (v := .tuple #[.bool true, e.key, e.val]) (o := p.nop) rfl hp.nop.2.2 (by simp only [execOp, hp.nop.1, hitv]; simp [hrun]) ?_
    rw [hp.nop.2.1]
    refine wpOps_step (w' := ChangeMaps.setBlock w3 r (.mapIter (some lb.blk) clock (seen.push e.born) clock)) (v := .bool true) (o := p.xop) rfl hp.xop.2.2 (by simp only [execOp, hp.xop.1, Act.eval_put_same hnx2]; simp [Instr.extract]) ?_
    rw [hp.xop.2.1]
    show Exit.then _ _ .normal _ _
    have hok3 : p.ok < (a2.put (some p.nx) (.tuple #[.bool true, e.key, e.val])).tmps.size := by rw [Act.put_size]; exact hok2
    refine wp_seq (wp_cond_true (Act.eval_put_same hok3) (wp_skip ?_))
    show Exit.then _ _ .normal _ _
    have hR4 := rel.turns (c := r) (.mapIter (some lb.blk) clock (seen.push e.born) clock) hR3' (by dsimp only [Kappa.add]; rw [if_neg hrb, if_pos rfl])
    have hκe : ((κ.add r (.mapIter (some lb.blk) clock seen c0)).add lb.blk (.map ces clock)).add r (.mapIter (some lb.blk) clock (seen.push e.born) clock) = (κ.add r (.mapIter (some lb.blk) clock (seen.push e.born) clock)).add lb.blk (.map ces clock) := by
      refine Kappa.same (fun x => ?_) rfl
      dsimp only [Kappa.add]
      by_cases hxr : x = r
      · subst hxr; rw [if_pos rfl, if_neg hrb, if_pos rfl]
      · rw [if_neg hxr, if_neg hxr, if_neg hxr]
    rw [hκe] at hR4
    generalize ha3 : (a2.put (some p.nx) (.tuple #[.bool true, e.key, e.val])).put (some p.ok) (.bool true) = a3
    have ha3s : a3.tmps.size = a.tmps.size := by rw [← ha3, Act.put_size, Act.put_size]; exact j6
    have ha3d : a3.defers = a.defers := by rw [← ha3]; exact j7
    have hit3 : a3.eval (.tmp p.it) = .pointer (some ⟨r, 0, none⟩) := by
      rw [← ha3, Act.eval_put_other hok3 hp.ne.2.1.symm, Act.eval_put_other hnx2 hp.ne.1.symm]; exact hitv
    have hF3 : FRel ρ2 (Fr.put (Fr.put F2 (some p.nx) undef) (some p.ok) undef) a3 := by
      rw [← ha3]
      exact (j5.put (.any _) (fun x hx => by cases hx; exact hnx2)).put (.any _) (fun x hx => by cases hx; exact hok3)
    obtain ⟨j, hj, hlf⟩ := leftOf_push hst.2 he
    obtain ⟨l1, kv, l2, rfl, hkey, hval, hkvf, hleft'⟩ := hleft.take hj
    have hstep := hround l1 kv l2 F2 σ2 hI
    generalize hw4 : ChangeMaps.setBlock w3 r (.mapIter (some lb.blk) clock (seen.push e.born) clock) = w4 at hR4 ⊢
    obtain ⟨κ4, hκ4', hm4, _⟩ := rel.opens hR4
    have hri4 : w4.heap[r]? = some (.mapIter (some lb.blk) clock (seen.push e.born) clock) := hm4.kept r _ (hκ4' _ _ (by dsimp only [Kappa.add]; rw [if_neg hrb, if_pos rfl]))
    have hbi4 : w4.heap[lb.blk]? = some (.map ces clock) := hm4.kept lb.blk _ (hκ4' _ _ (by dsimp only [Kappa.add]; rw [if_pos rfl]))
    refine wp_block (wp_seq (wp_region ?_))
    have hsz4 : List.range (p.eop :: p.ops4).toArray.size = 0 :: (List.range' 1 p.ops4.length ++ []) := by
      simp [List.range_eq_range', List.range'_succ]
    rw [hsz4]
    have hen3 : p.en < a3.tmps.size := by rw [ha3s]; exact hen
    refine wpOps_step (w' := w4) (v := .tuple #[e.key, e.val]) (o := p.eop) (by simp) hp.eop.2.2 (by simp only [execOp, hp.eop.1, hit3]; simp [run_entry_at w4 r lb.blk clock seen ces clock e hri4 hbi4 (mem_left he).1 hst.2]) ?_
    rw [hp.eop.2.1]
    refine ops_sound_to (ρ0 := ρ2) (σ0 := σ2) (a0 := a3) hsim (fun F5 σ5 ρ5 a5 w5 hK q2 q3 q9 q4 q5 q6 q7 q8 => ?_) p.ops4 1 (fun j hj => by simp [Nat.add_comm 1 j]) (fun o ho => by rw [ha3s]; exact hops4 o ho) _ σ2 ρ2 _ w4 hstep ρ2.le_refl (fun _ _ => rfl) (fun _ _ h => h) (Nat.le_refl _) ?_ ?_ ?_ hR4
    · show Exit.then _ _ .normal _ _
      refine wp_mono (code_sound hsim hdraw p.body _ _ ρ5 F5 σ5 a5 w5 (by rw [q6, ha3s]; exact hbody) hK q5 q8) fun ex a6 w6 hex => ?_
      obtain ⟨F6, σ6, ρ6, s1, s2, s3, s9, s4, s5, s6, s7, s8⟩ := hex
      have fin : (F6 p.it = .pointer (some ⟨σ1.next, 0, none⟩) ∧ I (l1 ++ l2) F6 σ6) → ∃ m, m < (leftOf ces seen).size ∧ ∃ l F2 σ2 ρ2 seen c0, m = (leftOf ces seen).size ∧ I l F2 σ2 ∧ F2 p.it = .pointer (some ⟨σ1.next, 0, none⟩) ∧ Left ρ2 l (leftOf ces seen).toList ∧ clock ≤ c0 ∧
          (ρ1.add σ1.next ⟨r, 0, 1, 1⟩).le ρ2 ∧ (∀ x, x < σ1.next + 1 → ρ2 x = (ρ1.add σ1.next ⟨r, 0, 1, 1⟩) x) ∧ (∀ x, x < σ1.next + 1 → ((σ1.skipTo (σ1.next + 1)).kill b).get x = none → σ2.get x = none) ∧ σ1.next + 1 ≤ σ2.next ∧ FRel ρ2 F2 a6 ∧
          a6.tmps.size = a.tmps.size ∧ a6.defers = a.defers ∧ rel.R ((κ.add r (.mapIter (some lb.blk) clock seen c0)).add lb.blk (.map ces clock)) ρ2 σ2 w6 := by
        rintro ⟨hf, hi⟩
        refine ⟨_, left_shrinks ces seen e he, l1 ++ l2, F6, σ6, ρ6, seen.push e.born, clock, rfl, hi, hf, ?_, Nat.le_refl _, Rho.le_trans j2 (Rho.le_trans q2 s2), fun x hx => ?_, fun x hx hg => ?_, by omega, s5, by rw [s6, q6, ha3s], by rw [s7, q7, ha3d], s8⟩
        · rw [hlf]; exact (hleft'.mono q2).mono s2
        · rw [s3 x (by omega), q3 x (by omega)]; exact j3 x hx
        · exact s9 x (by omega) (q9 x (by omega) (j9 x hx hg))
      cases ex with
      | normal => exact fin s1
      | exit id =>
        obtain ⟨rfl, hI'⟩ := s1
        show Exit.inBlock p.b1 _ (.exit p.b1) _ _
        simp only [Exit.inBlock, if_true]
        exact fin hI'
      | goto l => exact s1.elim
      | ret => exact s1.elim
      | panic ch => exact s1.elim
      | outgrown => exact s1.elim
    · refine hF3.put ?_ (fun x hx => by cases hx; exact hen3)
      have hk1 : VRel ρ2 kv.1 kv.1 := flat_rel ρ2 (by generalize kv.1 = k at hkvf; cases k <;> simp_all [keyFlat, flat])
      rw [hkey]
      exact VRel.tuple_mk (.cons hk1 (.cons hval (.nil _)))
    · exact Act.put_size ..
    · rfl

end Go.Ax

/- Functions with a round over a map in their outermost row. -/
namespace Go.Ax
open Go
variable {L : Type} {P : Program} {rel : Rel P L} {call : Spec L}

def rangeOf : Code → Option RangeParts
  | .seq (.region r0 ops false) (.block b0 (.loop (.seq (.region r1 ops1 false) (.seq (.cond (.tmp ok') .skip (.exit e)) (.block b1 (.seq (.region r4 ops4 false) body)))))) =>
    match ops.toList.reverse, ops1.toList, ops4.toList with
    | rop :: pre, [nop, xop], eop :: ops4 =>
      match rop.op, rop.dst, rop.guard, nop.op, nop.dst, nop.guard, xop.op, xop.dst, xop.guard, eop.op, eop.dst, eop.guard with
      | .range rt rx, some it, none, .next (.tmp i1) false, some nx, none, .extract (.tmp n1) 0, some ok, none, .entry (.tmp i2), some en, none =>
        if i1 == it && i2 == it && n1 == nx && ok' == ok && e == b0 && nx != it && ok != it && en != it && ok != nx then
          some { r0, pre := pre.reverse, rop, rt, rx, it, b0, r1, nop, nx, xop, ok, b1, r4, eop, en, ops4, body }
        else none
      | _, _, _, _, _, _, _, _, _, _, _, _ => none
    | _, _, _ => none
  | _ => none

theorem rangeOf_spec {c : Code} {p : RangeParts} (h : rangeOf c = some p) : c = p.code ∧ p.Fit := by
  unfold rangeOf at h
  split at h
  · rename_i r0 ops b0 r1 ops1 ok' e b1 r4 ops4 body
    split at h
    · rename_i rop pre nop xop eop ops4' h1 h2 h3
      split at h
      · rename_i rt rx it i1 nx n1 ok i2 en a1 a2 a3 a4 a5 a6 a7 a8 a9 a10 a11 a12
        split at h
        · rename_i hc
          simp only [Bool.and_eq_true, beq_iff_eq, bne_iff_ne, ne_eq] at hc
          obtain ⟨⟨⟨⟨⟨⟨⟨⟨rfl, rfl⟩, rfl⟩, rfl⟩, rfl⟩, c1⟩, c2⟩, c3⟩, c4⟩ := hc
          cases h
          have e1 : ops = (pre.reverse ++ [rop]).toArray := by
            apply Array.toList_inj.1
            have := congrArg List.reverse h1
            simpa using this
          have e2 : ops1 = #[nop, xop] := by apply Array.toList_inj.1; simpa using h2
          have e3 : ops4 = (eop :: ops4').toArray := by apply Array.toList_inj.1; simpa using h3
          refine ⟨?_, ⟨a1, a2, a3⟩, ⟨a4, a5, a6⟩, ⟨a7, a8, a9⟩, ⟨a10, a11, a12⟩, c1, c2, c3, c4⟩
          simp only [RangeParts.code, RangeParts.loop, ← e1, ← e2, ← e3]
        · cases h
      · cases h
    · cases h
  · cases h

def aCodeX (P : Program) (call : Spec L) (plans : Plans) : Code → (Exit → Fr → AMem L → Prop) → Fr → AMem L → Prop
  | .seq a b, Q, F, σ => match rangeOf a with
    | some p => aRange P call plans p (aCodeX P call plans b Q) F σ
    | none => aCode P call plans a (exThen (aCodeX P call plans b Q) Q) F σ
  | c, Q, F, σ => aCode P call plans c Q F σ

def codeOkX (ok : PlanOk) (plans : Plans) (n : Nat) : Code → Bool
  | .seq a b => (match rangeOf a with
    | some p => p.pre.all (okOper n) && okOperand p.rx && p.ops4.all (okOper n) && codeOk ok plans n p.body && decide (p.it < n) && decide (p.nx < n) && decide (p.ok < n) && decide (p.en < n)
    | none => codeOk ok plans n a) && codeOkX ok plans n b
  | c => codeOk ok plans n c

theorem codeX_sound (hsim : Sim rel call) {ok : PlanOk} (hdraw : DrawSound rel call ok) {plans : Plans} : ∀ (c : Code) (Q : Exit → Fr → AMem L → Prop) (κ : Kappa) (ρ : Rho) (F : Fr) (σ : AMem L) (a : Act) (w : World),
    codeOkX ok plans a.tmps.size c = true → aCodeX P call plans c Q F σ → FRel ρ F a → rel.R κ ρ σ w → c.wp P (Ends rel κ ρ σ a Q) a w := by
  intro c
  induction c with
  | seq x y _ ihy =>
    intro Q κ ρ F σ a w hok h hF hR
    simp only [codeOkX, Bool.and_eq_true] at hok
    simp only [aCodeX] at h
    have fin : ∀ e a' w', Ends rel κ ρ σ a (exThen (aCodeX P call plans y Q) Q) e a' w' → Exit.then (y.wp P (Ends rel κ ρ σ a Q)) (Ends rel κ ρ σ a Q) e a' w' := by
      intro e a' w' he
      cases e with
      | normal =>
        obtain ⟨F', σ', ρ', k1, k2, k3, k9, k4, k5, k6, k7, k8⟩ := he
        have := ihy Q κ ρ' F' σ' a' w' (by rw [k6]; exact hok.2) k1 k5 k8
        exact wp_mono this fun e a'' w'' he => he.mono k2 k3 k9 k4 k6 k7 fun _ _ h => h
      | exit id => exact he.mono ρ.le_refl (fun _ _ => rfl) (fun _ _ h => h) (Nat.le_refl _) rfl rfl fun _ _ h => h
      | goto l => exact he.mono ρ.le_refl (fun _ _ => rfl) (fun _ _ h => h) (Nat.le_refl _) rfl rfl fun _ _ h => h
      | ret => exact he.mono ρ.le_refl (fun _ _ => rfl) (fun _ _ h => h) (Nat.le_refl _) rfl rfl fun _ _ h => h
      | panic ch => exact he.mono ρ.le_refl (fun _ _ => rfl) (fun _ _ h => h) (Nat.le_refl _) rfl rfl fun _ _ h => h
      | outgrown => exact he.mono ρ.le_refl (fun _ _ => rfl) (fun _ _ h => h) (Nat.le_refl _) rfl rfl fun _ _ h => h
    split at h
    · rename_i p hp
      rw [hp] at hok
      simp only [Bool.and_eq_true, List.all_eq_true, decide_eq_true_eq] at hok
      obtain ⟨⟨⟨⟨⟨⟨⟨⟨o1, o2⟩, o3⟩, o4⟩, o5⟩, o6⟩, o7⟩, o8⟩, _⟩ := hok
      obtain ⟨rfl, hfit⟩ := rangeOf_spec hp
      refine wp_seq (wp_mono (range_sound hsim hdraw hfit o1 o2 o3 o4 o5 o6 o7 o8 h hF hR (Q := exThen (aCodeX P call plans y Q) Q) fun _ _ h => h) fin)
    · rename_i hp
      rw [hp] at hok
      exact wp_seq (wp_mono (code_sound hsim hdraw x _ κ ρ F σ a w hok.1 h hF hR) fin)
  | _ => intro Q κ ρ F σ a w hok h hF hR; exact code_sound hsim hdraw _ Q κ ρ F σ a w hok h hF hR

/-- A body run on arguments. -/
def aBodyX (P : Program) (call : Spec L) (plans : Plans) (fn : Func) (c : Code) : Law L := fun args σ K =>
  args.length ≤ fn.ntmps ∧ aCodeX P call plans c (aEnd P fn.results.toList K) (aArgs args) σ

structure FnOkX (P : Program) (plans : Plans) (f : FuncId) (fn : Func) (c : Code) : Prop where
  func : P.funcs[f]? = some fn
  body : fn.body = some c
  code : codeOkX (planOk P) plans fn.ntmps c = true
  name : (fn.name == "runtime.NumGoroutine") = false

/-- A function whose body does what its law tells. -/
theorem Sim.addX (hsim : Sim rel call) (hm : P.follows .mixedOrders = true) {plans : Plans} {f : FuncId} {fn : Func} {c : Code} (hf : FnOkX P plans f fn c) {law : Law L}
    (hb : ∀ args σ K, law args σ K → aBodyX P call plans fn c args σ K) : Sim rel (fun g args σ K => call g args σ K ∨ (g = f ∧ law args σ K)) := by
  intro g args σ K h κ ρ w args' hargs hR
  rcases h with h | ⟨rfl, h⟩
  · exact hsim g args σ K h κ ρ w args' hargs hR
  refine .inl ⟨?_, fn, hf.func, by rw [hf.body]; rfl, hf.name⟩
  obtain ⟨hlen, hcode⟩ := hb args σ K h
  have hlen' : args'.size = args.length := by rw [hargs.1]; simp
  have hsz : (args' ++ Array.replicate (fn.ntmps - args'.size) undef).size = fn.ntmps := by simp; omega
  refine calls_of_wp hf.func hf.body ?_
  have hF : FRel ρ (aArgs args) { tmps := args' ++ Array.replicate (fn.ntmps - args'.size) undef, defers := [] } := by
    intro i
    simp only [aArgs]
    rw [Array.getD_eq_getD_getElem?, Array.getElem?_append, List.getD_eq_getElem?_getD]
    by_cases hi : i < args'.size
    · rw [if_pos hi]
      have h1 : args[i]? = some args[i] := List.getElem?_eq_getElem (by omega)
      have h2 : args'[i]? = some args'[i] := Array.getElem?_eq_getElem hi
      rw [h1, h2]
      exact hargs.2 i _ _ h1 (by simp)
    · rw [if_neg hi, List.getElem?_eq_none (by omega)]
      exact .any _
  refine wp_mono (codeX_sound hsim (draw_sound hsim hm) c _ κ ρ _ σ _ w (by rw [hsz]; exact hf.code) hcode hF hR) fun e a w' he => ?_
  obtain ⟨F', σ', ρ', k1, k2, k3, k9, k4, k5, k6, k7, k8⟩ := he
  obtain ⟨κ', _, hmr, _⟩ := rel.opens k8
  have fin : (∃ v, aResults P fn.results.toList F' σ' = some v ∧ K v σ') → a.defers = [] ∧ ∃ v, (results fn a.tmps).run P w' = .ok v w' ∧ CallEnd rel κ ρ σ K (.returned v) w' := by
    rintro ⟨v, hv, hK⟩
    obtain ⟨v', h1, h2⟩ := results_sound hmr k5 hv
    exact ⟨k7, v', h1, v, v', ρ', σ', rfl, hK, k2, k3, k9, k4, h2, k8⟩
  cases e with
  | normal => simp only [aEnd] at k1; exact fin (by split at k1; exact ⟨_, by assumption, k1⟩; exact k1.elim)
  | ret => simp only [aEnd] at k1; exact fin (by split at k1; exact ⟨_, by assumption, k1⟩; exact k1.elim)
  | exit id => exact k1.elim
  | goto l => exact k1.elim
  | panic ch => exact k1.elim
  | outgrown => exact k1.elim

end Go.Ax

/- Calls in any memory: runs that touch nothing; memory that says less. -/
namespace Go.Ax
open Go
variable {L : Type} {P : Program} {rel : Rel P L} {call call' : Spec L}

theorem Sim.or (h : Sim rel call) (h' : Sim rel call') : Sim rel (fun g args σ K => call g args σ K ∨ call' g args σ K) := by
  intro g args σ K hc κ ρ w args' hargs hR
  rcases hc with hc | hc
  · exact h g args σ K hc κ ρ w args' hargs hR
  · exact h' g args σ K hc κ ρ w args' hargs hR

theorem Sim.weaken (h : Sim rel call) (hw : ∀ g args σ K, call' g args σ K → call g args σ K) : Sim rel call' :=
  fun g args σ K hc => h g args σ K (hw g args σ K hc)

/-- What says less: blocks gone, a map's entries in another order, more numbers taken. -/
structure Less (σ σ' : AMem L) : Prop where
  next : σ.next ≤ σ'.next
  get : ∀ b, σ'.get b = σ.get b ∨ (σ'.get b = none ∧ ∀ x, σ.get b ≠ some (.logic x)) ∨ ∃ es es', σ.get b = some (.map es) ∧ σ'.get b = some (.map es') ∧ es.Perm es'

theorem Less.refl (σ : AMem L) : Less σ σ := ⟨Nat.le_refl _, fun _ => .inl rfl⟩

theorem Less.logic {σ σ' : AMem L} (h : Less σ σ') : SameLogic σ σ' := by
  intro b x
  rcases h.get b with e | ⟨e, hn⟩ | ⟨es, es', e1, e2, _⟩
  · rw [e]
  · rw [e]; exact ⟨fun h => (by cases h), fun h => absurd h (hn x)⟩
  · rw [e1, e2]; simp

theorem MRel.less {κ : Kappa} {ρ : Rho} {σ σ' : AMem L} {w : World} (h : MRel P κ ρ σ w) (hl : Less σ σ') (hn : ∀ b, σ'.next ≤ b → ρ b = none) : MRel P κ ρ σ' w := by
  have key : ∀ b o, σ'.get b = some o → ∃ o', σ.get b = some o' ∧ o'.isLogic = o.isLogic ∧ o'.isRo = o.isRo := by
    intro b o ho
    rcases hl.get b with e | ⟨e, _⟩ | ⟨es, es', e1, e2, _⟩
    · exact ⟨o, by rw [← e]; exact ho, rfl, rfl⟩
    · rw [e] at ho; cases ho
    · rw [e2] at ho; cases ho
      exact ⟨_, e1, rfl, rfl⟩
  refine { live := fun b o ho hlo => ?_, inj := fun b c o o' l l' hb hc hbc hx hy hro => ?_, fresh := fun b hb => ⟨?_, hn b hb⟩, old := h.old, kept := h.kept, apart := fun c o b o' l hc hb hlo => ?_, env := h.env }
  · rcases hl.get b with e | ⟨e, _⟩ | ⟨es, es', e1, e2, hp⟩
    · exact h.live b o (by rw [← e]; exact ho) hlo
    · rw [e] at ho; cases ho
    · rw [e2] at ho; cases ho
      obtain ⟨l, hr, ces, clock, h1, h2, h3, h4, es2, h5, h6, h7⟩ := h.live b _ e1 rfl
      refine ⟨l, hr, ces, clock, h1, h2, ((hp.map _).nodup_iff).1 h3, fun k hk => h4 k (((hp.map _).mem_iff).2 hk), es2, h5.trans hp, h6, h7⟩
  · obtain ⟨o1, b1, b2, b3⟩ := key b o hb
    obtain ⟨o2, c1, c2, c3⟩ := key c o' hc
    exact h.inj b c o1 o2 l l' b1 c1 hbc (by rw [b2]; exact hx) (by rw [c2]; exact hy) (by rw [b3, c3]; exact hro)
  · rcases hl.get b with e | ⟨e, _⟩ | ⟨es, es', e1, e2, hp⟩
    · rw [e]; exact (h.fresh b (Nat.le_trans hl.next hb)).1
    · exact e
    · rw [(h.fresh b (Nat.le_trans hl.next hb)).1] at e1; cases e1
  · obtain ⟨o1, b1, b2, _⟩ := key b o' hb
    exact h.apart c o b o1 l hc b1 (by rw [b2]; exact hlo)

/-- A call may be told by less. -/
theorem Sim.less (h : Sim rel call) (hw : ∀ g args σ K, (∀ b, σ.next ≤ b → σ.get b = none) → call' g args σ K → call g args σ (fun v σ1 => ∃ σ', Less σ1 σ' ∧ K v σ')) : Sim rel call' := by
  intro g args σ K hc κ ρ w args' hargs hR
  obtain ⟨_, _, hm0, _⟩ := rel.opens hR
  refine (h g args σ _ (hw g args σ K (fun b hb => (hm0.fresh b hb).1) hc) κ ρ w args' hargs hR).mono fun e w' he => ?_
  obtain ⟨u, v', ρ', σ1, k1, ⟨σ', hl, hK⟩, k2, k3, k4, k5, k6, k7⟩ := he
  obtain ⟨κ', _, hm, hclose⟩ := rel.opens k7
  refine ⟨u, v', ρ', σ', k1, hK, k2, k3, fun x hx hg => ?_, Nat.le_trans k5 hl.next, k6, hclose ρ' σ' w' ρ'.le_refl (hm.less hl fun b hb => (hm.fresh b (Nat.le_trans hl.next hb)).2) hl.logic hl.next⟩
  have := k4 x hx hg
  rcases hl.get x with e | ⟨e, _⟩ | ⟨es, es', e1, e2, _⟩
  · rw [e]; exact this
  · exact e
  · rw [this] at e1; cases e1

/-- A value without addresses; or one that is not looked at. -/
def bare : Value → Bool
  | .chan none => true
  | .func (.func _) xs us => xs.isEmpty && us.isEmpty
  | v => flat v

theorem bare_rel {ρ ρ' : Rho} {v v' : Value} (h : bare v = true) (hv : VRel ρ v v') : VRel ρ' v v' := by
  cases hv with
  | any => exact .any _
  | skip => exact .skip
  | bool b => exact .bool b
  | int k n => exact .int k n
  | float k n => exact .float k n
  | string s => exact .string s
  | nilp => exact .nilp
  | ptr hb => simp [bare, flat] at h
  | nils => exact .nils
  | slice hb hc hr => simp [bare, flat] at h
  | empty a c => exact .empty a c
  | nilm => exact .nilm
  | map hb => simp [bare, flat] at h
  | func fn h1 h2 h3 h4 =>
    rename_i xs ys us vs
    cases fn with
    | func f =>
      simp only [bare, Bool.and_eq_true, Array.isEmpty_iff] at h
      obtain ⟨rfl, rfl⟩ := h
      exact .func _ h1 h2 (fun i hi => by simp at hi) (fun i hi => by simp at hi)
    | _ => simp [bare, flat] at h
  | nilf => exact .nilf
  | iface t hv => simp [bare, flat] at h
  | nili => exact .nili
  | agg => simp [bare, flat] at h
  | tuple => simp [bare, flat] at h

def bareR (v : Value) : Bool := bare v || (match v with | .tuple xs => xs.toList.all bare | _ => false)

theorem bareR_rel {ρ ρ' : Rho} {v v' : Value} (h : bareR v = true) (hv : VRel ρ v v') : VRel ρ' v v' := by
  unfold bareR at h
  rw [Bool.or_eq_true] at h
  rcases h with h | h
  · exact bare_rel h hv
  · split at h
    · cases hv with
      | any => exact .any _
      | tuple h1 h2 =>
        refine .tuple h1 fun i hi => bare_rel ?_ (h2 i hi)
        refine List.all_eq_true.1 h _ ?_
        rw [Array.getD_eq_getD_getElem?, Array.getElem?_eq_getElem hi]
        simp
    · cases h

/-- A run that starts with nothing is a call in any memory, that it leaves as it was. -/
theorem Sim.pure {f : FuncId} {args : List Value} {v : Value} (hrun : Sim (physRel P L) call) (hb : args.all bare = true) (hv : bareR v = true)
    (h : call f args ⟨0, fun _ => none⟩ (fun u _ => u = v)) : Sim rel (fun g as σ K => (g = f ∧ as = args) ∧ K v σ) := by
  rintro g as σ K ⟨⟨rfl, rfl⟩, hK⟩ κ ρ w args' hargs hR
  obtain ⟨κ', _, hm, hclose⟩ := rel.opens hR
  have hm0 : MRel P ⟨fun c => w.heap[c]?, envOf w⟩ (fun _ => none) (⟨0, fun _ => none⟩ : AMem L) w :=
    { live := fun b o ho => (by cases ho), inj := fun b c o o' l l' hb => (by cases hb), fresh := fun b _ => ⟨rfl, rfl⟩, old := fun b l hl => (by cases hl), kept := fun c o hc => hc, apart := fun c o b o' l hc hb => (by cases hb), env := rfl }
  have hargs0 : LRel (fun _ => none) as args'.toList := ⟨hargs.1, fun i x y hx hy => bare_rel (List.all_eq_true.1 hb x (List.mem_of_getElem? hx)) (hargs.2 i x y hx hy)⟩
  refine (hrun g as _ _ h _ _ w args' hargs0 hm0).mono fun e w' he => ?_
  obtain ⟨u, v', ρ', σ1, k1, rfl, k2, k3, k4, k5, k6, k7⟩ := he
  have hk : ∀ c, c < w.heap.size → w'.heap[c]? = w.heap[c]? := fun c hc => by
    have h1 : w.heap[c]? = some w.heap[c] := Array.getElem?_eq_getElem hc
    have := (show MRel P ⟨fun c => w.heap[c]?, envOf w⟩ ρ' σ1 w' from k7).kept c _ h1
    rw [this, h1]
  have hsz : w.heap.size ≤ w'.heap.size := by
    rcases Nat.lt_or_ge w'.heap.size w.heap.size with hlt | hge
    · have := hk w'.heap.size hlt
      rw [Array.getElem?_eq_none (Nat.le_refl _), Array.getElem?_eq_getElem hlt] at this
      cases this
    · exact hge
  have hm' : MRel P κ' ρ σ w' := hm.of_ext (fun c o hc => hm.kept_lt hc) hsz hk (show MRel P ⟨fun c => w.heap[c]?, envOf w⟩ ρ' σ1 w' from k7).env
  exact ⟨u, v', ρ, σ, k1, hK, ρ.le_refl, fun _ _ => rfl, fun _ _ h => h, Nat.le_refl _, bareR_rel hv k6, hclose ρ σ w' ρ.le_refl hm' (SameLogic.refl σ) (Nat.le_refl _)⟩

end Go.Ax

/- A run on one block of known cells is a call in any memory that has such a block. -/
namespace Go.Ax
open Go
variable {L : Type} {P : Program} {rel : Rel P L} {call call' : Spec L}

def oneBlk (vs : List Value) (e : TypeId) : AMem L := ⟨1, fun b => if b = 0 then some (.cells vs e false) else none⟩

theorem Sim.block {f : FuncId} {rest : List Value} {v : Value} {n : Nat} {vs vs' : List Value} {e : TypeId} (hrun : Sim (physRel P L) call) (hn : 0 < n) (hb : rest.all bare = true) (hvs : vs.all bare = true) (hvs' : vs'.all bare = true) (hv : bareR v = true) (hlen : vs'.length = vs.length)
    (h : call f (.slice (some ⟨0, 0, none⟩) n n :: rest) (oneBlk vs e) (fun u σ1 => u = v ∧ σ1.get 0 = some (.cells vs' e false))) :
    Sim rel (fun g as σ K => g = f ∧ ∃ b, as = .slice (some ⟨b, 0, none⟩) n n :: rest ∧ σ.get b = some (.cells vs e false) ∧ K v (σ.set b (.cells vs' e false))) := by
  rintro g as σ K ⟨rfl, b, rfl, hbg, hK⟩ κ ρ w args' hargs hR
  obtain ⟨κ', _, hm, hclose⟩ := rel.opens hR
  obtain ⟨l, hl, hor⟩ := hm.live b _ hbg rfl
  obtain ⟨x', rest', hx', hs, hrest⟩ := hargs.uncons
  obtain ⟨_, hs2⟩ := hs.slice_inv
  rcases hs2 with ⟨l', cap, hl', _, hc, hr, rfl⟩ | ⟨h0, _⟩
  case inr => omega
  simp only at hl'
  rw [hl] at hl'; cases hl'
  obtain ⟨arr, fr, h1, h2, h3, h4, h5, h6⟩ := hor
  have hbl : l.blk < w.heap.size := hm.old b l hl
  let ρ0 : Rho := fun x => if x = 0 then some l else none
  let κ0 : Kappa := ⟨fun c => if c = l.blk then none else w.heap[c]?, envOf w⟩
  have hm0 : MRel P κ0 ρ0 (oneBlk vs e : AMem L) w := by
    refine { live := fun x o ho hlo => ?_, inj := fun x y o o' lx ly hx hy hxy => ?_, fresh := fun x hx => ?_, old := fun x lx hx => ?_, kept := fun c o hc => ?_, apart := fun c o x o' lx hc hx hlo hlx => ?_, env := rfl }
    · simp only [oneBlk] at ho
      split at ho
      · rename_i hx; subst hx; cases ho
        exact ⟨l, by simp [ρ0], arr, fr, h1, h2, h3, h4, fun i v hv => let ⟨v', a, b⟩ := h5 i v hv; ⟨v', a, bare_rel (List.all_eq_true.1 hvs v (List.mem_of_getElem? hv)) b⟩, h6⟩
      · cases ho
    · simp only [oneBlk] at hx hy
      split at hx
      · split at hy
        · rename_i a b; subst a; subst b; exact absurd rfl hxy
        · cases hy
      · cases hx
    · have hx' : 1 ≤ x := hx
      constructor
      · simp only [oneBlk]; rw [if_neg (by omega)]
      · simp only [ρ0]; rw [if_neg (by omega)]
    · simp only [ρ0] at hx
      split at hx
      · cases hx; exact hbl
      · cases hx
    · simp only [κ0] at hc
      split at hc
      · cases hc
      · exact hc
    · simp only [κ0] at hc
      split at hc
      · cases hc
      · rename_i hcl
        simp only [ρ0] at hlx
        split at hlx
        · cases hlx; exact fun e => hcl e.symm
        · cases hlx
  have hargs0 : LRel ρ0 (.slice (some ⟨0, 0, none⟩) n n :: rest) args'.toList := by
    rw [hx']
    refine .cons ?_ ⟨hrest.1, fun i x y hx hy => bare_rel (List.all_eq_true.1 hb x (List.mem_of_getElem? hx)) (hrest.2 i x y hx hy)⟩
    exact VRel.slice (ρ := ρ0) (b := 0) (off := 0) (len := n) (cap := cap) (l := l) (by simp [ρ0]) hc hr
  refine (hrun g _ _ _ h _ _ w args' hargs0 hm0).mono fun en w' he => ?_
  obtain ⟨u, v', ρ', σ1, k1, ⟨rfl, hg0⟩, k2, k3, k4, k5, k6, k7⟩ := he
  have k7' : MRel P κ0 ρ' σ1 w' := k7
  obtain ⟨l2, hl2, arr', fr', g1, g2, g3, g4, g5, g6⟩ := k7'.live 0 _ hg0 rfl
  have hl2' : l2 = l := by
    have := k2 0 l (by simp [ρ0])
    rw [this] at hl2; cases hl2; rfl
  subst hl2'
  have hk : ∀ c, c < w.heap.size → c ≠ l2.blk → w'.heap[c]? = w.heap[c]? := fun c hc hne => by
    have h1 : w.heap[c]? = some w.heap[c] := Array.getElem?_eq_getElem hc
    rw [k7'.kept c w.heap[c] (by simp only [κ0]; rw [if_neg hne, h1]), h1]
  have hsz : w.heap.size ≤ w'.heap.size := by
    rcases Nat.lt_or_ge w'.heap.size w.heap.size with hlt | hge
    · have h7 : w'.heap.size ≠ l2.blk := fun e => by
        have : l2.blk < w'.heap.size := k7'.old 0 l2 (k2 0 l2 (by simp [ρ0]))
        omega
      have := hk w'.heap.size hlt h7
      rw [Array.getElem?_eq_none (Nat.le_refl _), Array.getElem?_eq_getElem hlt] at this
      cases this
    · exact hge
  have key : ∀ x o, (σ.set b (.cells vs' e false)).get x = some o → ∃ o', σ.get x = some o' ∧ o'.isLogic = o.isLogic ∧ o'.isRo = o.isRo := by
    intro x o ho
    rw [AMem.get_set] at ho
    split at ho
    · rename_i hx; subst hx; cases ho; exact ⟨_, hbg, rfl, rfl⟩
    · exact ⟨o, ho, rfl, rfl⟩
  have hm' : MRel P κ' ρ (σ.set b (.cells vs' e false)) w' := by
    refine { live := fun x o ho hlo => ?_, inj := fun x y o o' lx ly hx hy hxy hxl hyl hro => ?_, fresh := fun x hx => ?_, old := fun x lx hx => Nat.lt_of_lt_of_le (hm.old x lx hx) hsz, kept := fun c o hc => ?_, apart := fun c o x o' lx hc hx hlo => ?_, env := k7'.env.trans hm.env }
    · rw [AMem.get_set] at ho
      split at ho
      · rename_i hx; subst hx; cases ho
        exact ⟨l2, hl, arr', fr', g1, g2, g3, g4, fun i v hv => let ⟨v', a, b⟩ := g5 i v hv; ⟨v', a, bare_rel (List.all_eq_true.1 hvs' v (List.mem_of_getElem? hv)) b⟩, g6⟩
      · rename_i hxb
        obtain ⟨lx, hlx, horx⟩ := hm.live x o ho hlo
        exact ⟨lx, hlx, horx.of_block (hk _ (hm.old x lx hlx) (hm.inj x b o _ lx l2 ho hbg hxb hlo rfl (by simp [AObj.isRo]) hlx hl))⟩
    · obtain ⟨o1, b1, b2, b3⟩ := key x o hx
      obtain ⟨o2, c1, c2, c3⟩ := key y o' hy
      exact hm.inj x y o1 o2 lx ly b1 c1 hxy (by rw [b2]; exact hxl) (by rw [c2]; exact hyl) (by rw [b3, c3]; exact hro)
    · have hxb : x ≠ b := fun e => by
        have hx' : σ.next ≤ x := hx
        rw [e] at hx'
        rw [(hm.fresh b hx').1] at hbg; cases hbg
      rw [AMem.get_set, if_neg hxb]
      exact hm.fresh x hx
    · have h8 := hm.kept c o hc
      have hlt : c < w.heap.size := (Array.getElem?_eq_some_iff.1 h8).1
      rw [hk c hlt (fun e => hm.apart c o b _ l2 hc hbg rfl hl e.symm)]; exact h8
    · obtain ⟨o1, b1, b2, _⟩ := key x o' hx
      exact hm.apart c o x o1 lx hc b1 (by rw [b2]; exact hlo)
  have hsl : SameLogic σ (σ.set b (.cells vs' e false)) := by
    intro x y
    rw [AMem.get_set]
    split
    · rename_i hx; subst hx; rw [hbg]; simp
    · exact Iff.rfl
  refine ⟨u, v', ρ, σ.set b (.cells vs' e false), k1, hK, ρ.le_refl, fun _ _ => rfl, fun x hx hg => ?_, Nat.le_refl _, bareR_rel hv k6, hclose ρ _ w' ρ.le_refl hm' hsl (Nat.le_refl _)⟩
  rw [AMem.get_set]
  split
  · rename_i hxb; subst hxb; rw [hbg] at hg; cases hg
  · exact hg

end Go.Ax

/- From runs to what a row asks of a call. -/
namespace Go.Ax
open Go Go.RowKit Go.ChangeShapes Go.WideShapes Go.ChangeAt
variable {L : Type} {P : Program} {call : Spec L}

/-- A run that starts with nothing: the call answers so in every world, and leaves all that was there. -/
theorem Sim.below (hrun : Sim (physRel P L) call) {f : FuncId} {fn : Func} {args : List Value} {b : Bool} (hf : P.funcs[f]? = some fn) (hbody : fn.body.isSome = true) (hname : (fn.name == "runtime.NumGoroutine") = false)
    (h : call f args ⟨0, fun _ => none⟩ (fun u _ => u = .bool b)) {args' : Array Value} (hargs : LRel (fun _ => none) args args'.toList) (w : World) :
    Calls P f args' w fun e w' => e = .returned (.bool b) ∧ Below w.heap.size w w' := by
  have hm0 : MRel P ⟨fun c => w.heap[c]?, envOf w⟩ (fun _ => none) (⟨0, fun _ => none⟩ : AMem L) w :=
    { live := fun b o ho => (by cases ho), inj := fun b c o o' l l' hb => (by cases hb), fresh := fun b _ => ⟨rfl, rfl⟩, old := fun b l hl => (by cases hl), kept := fun c o hc => hc, apart := fun c o b o' l hc hb => (by cases hb), env := rfl }
  rcases hrun f args _ _ h _ _ w args' hargs hm0 with ⟨hc, _⟩ | ⟨v, w', hr, _⟩
  · refine hc.mono fun e w' he => ?_
    obtain ⟨u, v', ρ', σ1, k1, rfl, k2, k3, k4, k5, k6, k7⟩ := he
    have k7' : MRel P ⟨fun c => w.heap[c]?, envOf w⟩ ρ' σ1 w' := k7
    have hk : ∀ c, c < w.heap.size → w'.heap[c]? = w.heap[c]? := fun c hc => by
      have h1 : w.heap[c]? = some w.heap[c] := Array.getElem?_eq_getElem hc
      rw [k7'.kept c _ h1, h1]
    have hsz : w.heap.size ≤ w'.heap.size := by
      rcases Nat.lt_or_ge w'.heap.size w.heap.size with hlt | hge
      · have := hk w'.heap.size hlt
        rw [Array.getElem?_eq_none (Nat.le_refl _), Array.getElem?_eq_getElem hlt] at this
        cases this
      · exact hge
    have hv := k6.bool_inv
    subst hv
    have he := k7'.env
    simp only [envOf, Prod.mk.injEq] at he
    exact ⟨k1, he.1.1, he.2, he.1.2, hsz, hk⟩
  · have hne : ¬ fn.name = "runtime.NumGoroutine" := by simpa using hname
    have hnone : ¬ fn.body = none := by intro hb; rw [hb] at hbody; cases hbody
    simp [callFunc, run_program, hf, hne, hnone] at hr

/-- All arguments read behind the call as they read before. -/
theorem trodAll_below {H : Type} {enc : TypeId × Value → H} {W W' : World} (hl : laidOutB P = true) (hb : Below W.heap.size W W') : ∀ (ts : List TypeId) (vs : List Value) (ds : List (DataW H)) (ps : List MemPlace),
    (ts.all fun t => P.readableRec t && decide (t < P.types.size)) = true → DataW.TrodAll enc P W 0 (fun _ => true) true ts vs ds ps → (∀ x ∈ ps, x.block < W.heap.size) →
    DataW.TrodAll enc P W' 0 (fun b => decide (b < W.heap.size)) true ts vs ds ps
  | [], vs, ds, ps, _, h, _ => by
    obtain ⟨rfl, rfl, rfl⟩ := trodAll_nil h
    exact trodAll_mk0
  | t :: ts, vs, ds, ps, hr, h, hlt => by
    obtain ⟨v0, vs0, d0, ds0, p0, q0, rfl, rfl, rfl, h0, r0⟩ := trodAll_cons h
    simp only [List.all_cons, Bool.and_eq_true, decide_eq_true_eq] at hr
    exact trodAll_cons_mk (Below.trod hl hr.1.1 hr.1.2 h0 hb fun x hx => hlt x (by simp [hx])) (trodAll_below hl hb ts vs0 ds0 q0 (by simpa using hr.2) r0 fun x hx => hlt x (by simp [hx]))

/-- What a law's row asks behind the call: it answers true, and nothing has turned. -/
theorem post_true {H : Type} {enc : TypeId × Value → H} {f : Func} {s : ChangeSpec} {tb : TypeId} {W W' : World} {args : Array Value} {ds gs : List (DataW H)} {before : List MemPlace} (hl : laidOutB P = true) (hvars : s.vars = [])
    (hW : DataW.Whole enc P f.params.toList s.vars false W args.toList ds gs before) (hts : (f.params.toList.all fun t => P.readableRec t && decide (t < P.types.size)) = true)
    (hres : f.resultTypes.toList = [tb]) (htb : P.underlying tb = some .bool) (hfn : s.fn H (ds ++ gs) = { results := [.lit (.bool true)], args := ds }) (hb : Below W.heap.size W W') :
    s.post enc P f false true false false W args (.bool true) W' := by
  have hW' := hW
  obtain ⟨p, q, hA, hV, hpq, hfz, hnd⟩ := hW
  rw [hvars] at hV
  obtain ⟨rfl, rfl⟩ := trodVars_none hV
  rw [List.append_nil] at hpq
  subst hpq
  have hsz : f.resultTypes.size = 1 := by
    have := congrArg List.length hres; simpa using this
  refine ⟨ds, [], before, [], before, [], hW', ?_, ?_, ?_, hb.frame _, fun h => by cases h⟩
  · rw [hfn, hres, hsz]
    exact trodAll_cons_mk (shut_bool htb _) trodAll_mk0
  · rw [hfn]
    exact trodAll_below hl hb _ _ _ _ hts hA fun x hx => hW'.lt x hx
  · rw [hfn, hvars]; rfl

theorem undefs {vs : List Value} : ∀ {us : List Value}, us.length = vs.length → (∀ u ∈ us, u = undef) → LRel (fun _ => none) us vs := fun hl hu =>
  ⟨hl, fun i x y hx hy => by rw [hu x (List.mem_of_getElem? hx)]; exact .any _⟩

end Go.Ax
