/- What the evaluator says holds of the model: one operation, a region in the order of its text. -/
import Derived.Test.YtaeoiohcalonkaaGreatDoorAxCode
set_option linter.unusedVariables false
set_option linter.unusedSimpArgs false
namespace Go.Ax
open Go
variable {L : Type} {P : Program} {rel : Rel P L} {call : Spec L} {κ : Kappa} {ρ : Rho} {σ : AMem L} {w : World}

theorem getD_some {a : Array Value} {t : Nat} {v : Value} (h : a.getD t undef = v) (hv : v ≠ undef) : a[t]? = some v := by
  rw [Array.getD_eq_getD_getElem?] at h
  cases hx : a[t]? with
  | none => rw [hx] at h; exact absurd h.symm hv
  | some y => rw [hx] at h; simp at h; rw [h]

theorem wanted_sound {ops : Array Oper} {o : Oper} {F : Fr} {a : Act} {t : Bool} (h : aWanted ops o F = some t) (hF : FRel ρ F a) : Region.wanted o (yielded ops a.tmps) = t := by
  unfold aWanted at h
  unfold Region.wanted
  split at h
  · rename_i hg; rw [hg]; simpa using h
  · rename_i j want hg
    rw [hg]
    simp only
    split at h
    · rename_i hd
      simp only [Option.some.injEq] at h; subst h
      simp [yielded, hd]
    · rename_i s hd
      split at h
      · rename_i b hb
        simp only [Option.some.injEq] at h; subst h
        have hv := hF s
        rw [hb] at hv
        have := getD_some hv.bool_inv (by simp [undef])
        simp [yielded, hd, this]
      · rename_i hb
        simp only [Option.some.injEq] at h; subst h
        have hv := hF s
        rw [hb] at hv
        have hu : a.tmps.getD s undef = undef := by generalize a.tmps.getD s undef = y at hv; cases hv; rfl
        have : ((some s).bind (a.tmps[·]?)) = none ∨ ((some s).bind (a.tmps[·]?)) = some undef := by
          simp only [Option.bind_some]
          rw [Array.getD_eq_getD_getElem?] at hu
          cases hx : a.tmps[s]? with
          | none => exact .inl rfl
          | some y => rw [hx] at hu; simp at hu; exact .inr (by rw [hu])
        rcases this with h | h <;> simp [yielded, hd, h, undef]
      · cases h

theorem FRel.put {F : Fr} {a : Act} {v v' : Value} {d : Option Nat} (h : FRel ρ F a) (hv : VRel ρ v v') (hd : ∀ x, d = some x → x < a.tmps.size) : FRel ρ (Fr.put F d v) (a.put d v') := by
  cases d with
  | none => exact h
  | some d =>
    intro i
    have hlt := hd d rfl
    simp only [Fr.put, Fr.set, Act.put]
    rw [Array.getD_eq_getD_getElem?, Array.getElem?_setIfInBounds]
    by_cases hi : i = d
    · subst hi
      rw [if_pos rfl, if_pos rfl, if_pos hlt]; exact hv
    · rw [if_neg hi, if_neg (fun e => hi e.symm)]
      have := h i
      rwa [Array.getD_eq_getD_getElem?] at this

theorem Act.put_size (a : Act) (d : Option Nat) (v : Value) : (a.put d v).tmps.size = a.tmps.size := by cases d <;> simp [Act.put]

def okCall (op : Op) : Bool :=
  match op with
  | .call { callee := .value f, args, .. } => okOperand f && args.toList.all okOperand
  | op => okOp op
/-- May the evaluator take the operation: its constants are plain, it writes into the frame. -/
def okOper (n : Nat) (o : Oper) : Bool := okCall o.op && (match o.dst with | some d => decide (d < n) | none => true)

theorem okOper_dst {n : Nat} {o : Oper} (h : okOper n o = true) : ∀ x, o.dst = some x → x < n := by
  intro x hx
  simp only [okOper, hx, Bool.and_eq_true, decide_eq_true_eq] at h
  exact h.2

theorem step_sound (hsim : Sim rel call) {ops : Array Oper} {o : Oper} {F : Fr} {b nx : Nat} {K : Fr → AMem L → Prop} {a : Act} {next : Act → World → Prop} {Q : Exit → Act → World → Prop}
    (h : aStep P call ops o F σ b nx K) (hok : okOper a.tmps.size o = true) (hF : FRel ρ F a) (hR : rel.R κ ρ σ w) (hb : Free ρ σ b nx)
    (hnext : ∀ F' σ' ρ' a' w', K F' σ' → ρ.le ρ' → (∀ x, x < σ.next → x ≠ b → ρ' x = ρ x) → (∀ x, x < σ.next → x ≠ b → σ.get x = none → σ'.get x = none) → σ.next ≤ σ'.next → FRel ρ' F' a' → a'.tmps.size = a.tmps.size → a'.defers = a.defers → rel.R κ ρ' σ' w' → next a' w') :
    if Region.wanted o (yielded ops a.tmps) then o.wp P a w next Q else next (a.put o.dst undef) w := by
  have hdst := okOper_dst hok
  unfold aStep at h
  split at h
  · exact h.elim
  · rename_i hw
    rw [wanted_sound hw hF]
    simp only [Bool.false_eq_true, if_false]
    exact hnext _ _ ρ _ _ h ρ.le_refl (fun _ _ _ => rfl) (fun _ _ _ h => h) (Nat.le_refl _) (hF.put .skip hdst) (Act.put_size ..) (by cases o.dst <;> rfl) hR
  · rename_i hw
    rw [wanted_sound hw hF]
    simp only [if_true]
    split at h
    · rename_i f args argTypes hop
      have hok' : okOperand f = true ∧ args.toList.all okOperand = true := by
        simp only [okOper, okCall, hop, Bool.and_eq_true] at hok; exact hok.1
      split at h
      · rename_i g first captured hf
        have hfv := eval_rel hF hok'.1
        rw [hf] at hfv
        obtain ⟨first', captured', hf', hr1, hr2⟩ := hfv.func_inv
        have hr3 := map_rel hF _ hok'.2
        have hargs : LRel ρ (first.toList ++ args.toList.map (aEval F) ++ captured.toList) (first' ++ args.map a.eval ++ captured').toList := by
          simp only [Array.toList_append, Array.toList_map]
          exact (hr1.append hr3).append hr2
        have hbase : (execOp a.eval o).run P w = (callFunc g (first' ++ args.map a.eval ++ captured')).run P w := by
          simp only [execOp, hop, resolve, hf', Deferred.ofValue, Sem.run_bind, Sem.run_pure, Result.andThen_ok, invoke]
        have hdone : ∀ (v'' : Value) (w' : World), CallEnd rel κ ρ σ (fun v σ' => K (Fr.put F o.dst v) σ') (.returned v'') w' → next (a.put o.dst v'') w' := by
          intro v'' w' he
          obtain ⟨v, v', ρ', σ', e, hK, hle, hsame, hnone, hnx, hv, hR'⟩ := he
          cases e
          exact hnext _ _ ρ' _ _ hK hle (fun x hx _ => hsame x hx) (fun x hx _ => hnone x hx) hnx ((hF.mono hle).put hv hdst) (Act.put_size ..) (by cases o.dst <;> rfl) hR'
        unfold Oper.wp
        rw [hbase]
        rcases hsim _ _ _ _ h κ ρ w _ hargs hR with ⟨hcalls, fn, hfn, hbody, hname⟩ | ⟨v, w', hrun, he⟩
        · have hexec : (callFunc g (first' ++ args.map a.eval ++ captured')).run P w = .ok (.enter g (first' ++ args.map a.eval ++ captured')) w := by
            have hne : ¬ fn.name = "runtime.NumGoroutine" := by simpa using hname
            have hnone : ¬ fn.body = none := by intro hb; rw [hb] at hbody; cases hbody
            simp [callFunc, run_program, hfn, hne, hnone]
          rw [hexec, Oper.upon_enter]
          refine hcalls.mono fun e w' he => ?_
          have he2 := he
          obtain ⟨v, v', ρ', σ', rfl, _⟩ := he2
          exact hdone _ _ he
        · rw [hrun, Oper.upon_value]
          exact hdone _ _ he
      · exact h.elim
    · rename_i hnc
      have hok' : okOp o.op = true := by
        simp only [okOper, Bool.and_eq_true] at hok
        have := hok.1
        unfold okCall at this
        split at this
        · rename_i f args at' hop; exact absurd hop (hnc _ _ _)
        · exact this
      split at h
      · rename_i v σ' hop
        obtain ⟨κ', _, hm, hclose⟩ := rel.opens hR
        obtain ⟨x, v', w', ρ', h1, h2, h3, h4, h5, h6⟩ := aOp_sound (o := o) (a := a) hop hok' hF hm hb
        have hturn := aOp_turn hop
        have hnx : σ.next ≤ σ'.next := by rcases hturn.next with e | e <;> rw [e]; · exact Nat.le_refl _
                                          · exact hb.le
        have hR' := hclose ρ' σ' w' h3 h6 (hturn.logic hb.get) hnx
        unfold Oper.wp
        rw [h1]
        have hgoal := hnext _ _ ρ' (a.put o.dst v') w' h h3 (fun x _ hx => h4 x hx) (fun x _ hx hg => hturn.get hg hx) hnx ((hF.mono h3).put h5 hdst) (Act.put_size ..) (by cases o.dst <;> rfl) hR'
        rcases h2 with rfl | ⟨rfl, rfl⟩
        · exact hgoal
        · exact hgoal
      · exact h.elim

/-- Free at the end. -/
theorem Rel.free (hR : rel.R κ ρ σ w) : Free ρ σ σ.next (σ.next + 1) := by
  obtain ⟨κ', _, hm, _⟩ := rel.opens hR
  exact Free.next hm

/-- What holds at the end of a piece of code. -/
def Ends (rel : Rel P L) (κ : Kappa) (ρ0 : Rho) (σ0 : AMem L) (a0 : Act) (Q : Exit → Fr → AMem L → Prop) : Exit → Act → World → Prop := fun e a w =>
  ∃ F σ ρ, Q e F σ ∧ ρ0.le ρ ∧ (∀ x, x < σ0.next → ρ x = ρ0 x) ∧ (∀ x, x < σ0.next → σ0.get x = none → σ.get x = none) ∧ σ0.next ≤ σ.next ∧ FRel ρ F a ∧ a.tmps.size = a0.tmps.size ∧ a.defers = a0.defers ∧ rel.R κ ρ σ w

theorem ops_sound (hsim : Sim rel call) {ops : Array Oper} {Q : Exit → Fr → AMem L → Prop} {ρ0 : Rho} {σ0 : AMem L} {a0 : Act} : ∀ (l : List Oper) (k : Nat), (∀ j, l[j]? = ops[k + j]?) → l.length + k = ops.size → (∀ o ∈ l, okOper a0.tmps.size o = true) →
    ∀ (F : Fr) (σ : AMem L) (ρ : Rho) (a : Act) (w : World), aOps P call ops l F σ (Q .normal) → ρ0.le ρ → (∀ x, x < σ0.next → ρ x = ρ0 x) → (∀ x, x < σ0.next → σ0.get x = none → σ.get x = none) → σ0.next ≤ σ.next → FRel ρ F a → a.tmps.size = a0.tmps.size → a.defers = a0.defers → rel.R κ ρ σ w →
      wpOps P ops (Ends rel κ ρ0 σ0 a0 Q) (List.range' k l.length) a w
  | [], k, _, _, _, F, σ, ρ, a, w, h, h1, h2, h8, h3, h4, h5, h6, h7 => ⟨F, σ, ρ, h, h1, h2, h8, h3, h4, h5, h6, h7⟩
  | o :: l, k, hl, hlen, hok, F, σ, ρ, a, w, h, h1, h2, h8, h3, h4, h5, h6, h7 => by
    have hk : ops[k]? = some o := by have := hl 0; simpa using this.symm
    simp only [List.length_cons, List.range'_succ, wpOps, hk]
    have := step_sound (a := a) (next := wpOps P ops (Ends rel κ ρ0 σ0 a0 Q) (List.range' (k + 1) l.length)) (Q := Ends rel κ ρ0 σ0 a0 Q) hsim (by exact h) (by rw [h5]; exact hok o (.head _)) h4 h7 (Rel.free h7)
      (fun F' σ' ρ' a' w' hK hle hsame hnone hnx hF' hsz hdf hR' => by
        refine ops_sound hsim l (k + 1) (fun j => ?_) (by simp at hlen; omega) (fun o ho => hok o (.tail _ ho)) F' σ' ρ' a' w' hK (Rho.le_trans h1 hle) (fun x hx => ?_) (fun x hx hg => hnone x (by omega) (by omega) (h8 x hx hg)) (by omega) hF' (by rw [hsz, h5]) (by rw [hdf, h6]) hR'
        · have := hl (j + 1); simp only [List.getElem?_cons_succ] at this; rw [this]; congr 1; omega
        · rw [hsame x (by omega) (by omega)]; exact h2 x hx)
    split
    · rename_i hw; rw [hw] at this; exact .inl this
    · rename_i hw
      simp only [Bool.not_eq_true] at hw
      rw [hw] at this; exact this

end Go.Ax
