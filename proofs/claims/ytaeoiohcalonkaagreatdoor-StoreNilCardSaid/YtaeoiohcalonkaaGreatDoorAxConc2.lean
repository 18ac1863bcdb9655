/- Running code on known values: the runner, and that it says what the evaluator says. -/
import Derived.Test.YtaeoiohcalonkaaGreatDoorAxConc
set_option linter.unusedVariables false
set_option linter.unusedSimpArgs false
namespace Go.Ax
open Go
variable {L : Type} {P : Program} {β : Type}

def updT (t : Tr (AObj L)) (i : Nat) (g : Nat → Option (AObj L)) (k : Tr (AObj L) → β) : β :=
  match g i with
  | none => Tr.forceT (t.set i none) k
  | some o => forceO o fun o => Tr.forceT (t.set i (some o)) k
theorem updT_eq (t : Tr (AObj L)) (i : Nat) (g : Nat → Option (AObj L)) (k : Tr (AObj L) → β) : updT t i g k = k (t.set i (g i)) := by
  unfold updT
  split <;> rename_i h <;> rw [h]
  · rw [Tr.forceT_eq]
  · rw [forceO_eq, Tr.forceT_eq]

def cput (F : Tr Value) (d : Option Nat) (v : Value) (k : Tr Value → β) : β :=
  match d with
  | none => k F
  | some d => Tr.forceT (F.set d (some v)) k
theorem absF_set (F : Tr Value) (d : Nat) (v : Value) : absF (F.set d (some v)) = Fr.set (absF F) d v := by
  funext i
  simp only [absF, Tr.get_set, Fr.set]
  split <;> rfl
theorem cput_eq (F : Tr Value) (d : Option Nat) (v : Value) (k : Tr Value → β) : ∃ F', cput F d v k = k F' ∧ absF F' = Fr.put (absF F) d v := by
  cases d with
  | none => exact ⟨F, rfl, rfl⟩
  | some d => exact ⟨F.set d (some v), by simp only [cput, Tr.forceT_eq], absF_set F d v⟩

def cOp (P : Program) (op : Op) (F : Tr Value) (m : CMem L) (b nx : Nat) (k : Value → CMem L → Option β) : Option β :=
  match aOp P op (absF F) m.abs b nx with
  | none => none
  | some (v, σ') => (match computes op with | true => forceV v | false => headV v) fun v =>
    match touches op with
    | false => k v m
    | true => forceN σ'.next fun n => updT m.tr b σ'.get fun t =>
      match target (absF F) op with
      | none => k v ⟨n, t⟩
      | some c => updT t c σ'.get fun t => k v ⟨n, t⟩

theorem amem_ext {σ σ' : AMem L} (h1 : σ.next = σ'.next) (h2 : ∀ x, σ.get x = σ'.get x) : σ = σ' := by
  cases σ; cases σ'
  simp only at h1 h2
  subst h1
  congr
  funext x; exact h2 x

theorem cOp_sound {op : Op} {F : Tr Value} {m : CMem L} {b nx : Nat} {k : Value → CMem L → Option β} {r : β} (h : cOp P op F m b nx k = some r) : ∃ v m', aOp P op (absF F) m.abs b nx = some (v, m'.abs) ∧ k v m' = some r := by
  unfold cOp at h
  split at h
  · cases h
  · rename_i v σ' hop
    have hforce : ∀ (k : Value → Option β), (match computes op with | true => forceV v | false => headV v) k = k v := fun k => by
      cases computes op
      · exact headV_eq v k
      · exact forceV_eq v k
    rw [hforce] at h
    split at h
    · rename_i ht
      refine ⟨v, m, ?_, h⟩
      rw [hop, aOp_still ht hop]
    · rw [forceN_eq, updT_eq] at h
      split at h
      · rename_i htg
        refine ⟨v, ⟨σ'.next, m.tr.set b (σ'.get b)⟩, ?_, h⟩
        rw [hop]
        congr 2
        refine amem_ext rfl fun x => ?_
        simp only [CMem.abs, Tr.get_set]
        split
        · rename_i e; subst e; rfl
        · rename_i e
          exact aOp_only hop e (by rw [htg]; simp)
      · rename_i c htg
        rw [updT_eq] at h
        refine ⟨v, ⟨σ'.next, (m.tr.set b (σ'.get b)).set c (σ'.get c)⟩, ?_, h⟩
        rw [hop]
        congr 2
        refine amem_ext rfl fun x => ?_
        simp only [CMem.abs, Tr.get_set]
        split
        · rename_i e; subst e; rfl
        · rename_i e1
          split
          · rename_i e; subst e; rfl
          · rename_i e
            exact aOp_only hop e (by rw [htg]; simpa using fun h => e1 h.symm)

def lookL (F : Tr Value) : List Operand → (List Value → β) → β
  | [], k => k []
  | x :: xs, k => headV (aEval (absF F) x) fun v => lookL F xs fun vs => k (v :: vs)
theorem lookL_eq (F : Tr Value) : ∀ (xs : List Operand) (k : List Value → β), lookL F xs k = k (xs.map (aEval (absF F)))
  | [], _ => rfl
  | x :: xs, k => by simp only [lookL, headV_eq, lookL_eq F xs, List.map_cons]

/-- What calls answer. -/
abbrev CCall (L : Type) := FuncId → List Value → CMem L → Option (Value × CMem L)

def cStep (P : Program) (call : CCall L) (ops : Array Oper) (o : Oper) (F : Tr Value) (m : CMem L) (b nx : Nat) (k : Tr Value → CMem L → Option β) : Option β :=
  match aWanted ops o (absF F) with
  | none => none
  | some false => cput F o.dst skipped fun F => k F m
  | some true =>
    match o.op with
    | .call { callee := .value f, args, .. } =>
      match aEval (absF F) f with
      | .func (.func g) first captured => lookL F args.toList fun as => match call g (first.toList ++ as ++ captured.toList) m with
        | some (v, m') => cput F o.dst v fun F => k F m'
        | none => none
      | _ => none
    | op => cOp P op F m b nx fun v m' => cput F o.dst v fun F => k F m'

def CallsFit (ccall : CCall L) (call : Spec L) : Prop := ∀ g as m v m', ccall g as m = some (v, m') → ∀ K : Value → AMem L → Prop, K v m'.abs → call g as m.abs K

theorem cStep_sound {ccall : CCall L} {call : Spec L} (hc : CallsFit ccall call) {ops : Array Oper} {o : Oper} {F : Tr Value} {m : CMem L} {b nx : Nat} {k : Tr Value → CMem L → Option β} {r : β} {K : Fr → AMem L → Prop}
    (h : cStep P ccall ops o F m b nx k = some r) (hK : ∀ F' m', k F' m' = some r → K (absF F') m'.abs) : aStep P call ops o (absF F) m.abs b nx K := by
  unfold cStep at h
  unfold aStep
  split at h
  · cases h
  · rename_i hw
    rw [hw]
    obtain ⟨F', h1, h2⟩ := cput_eq F o.dst skipped fun F => k F m
    rw [h1] at h
    simp only [← h2]
    exact hK _ _ h
  · rename_i hw
    rw [hw]
    simp only
    split at h
    · rename_i f args argTypes hop
      simp only [hop]
      split at h
      · rename_i g first captured hf
        simp only [hf]
        rw [lookL_eq] at h
        split at h
        · rename_i v m' hg
          obtain ⟨F', h1, h2⟩ := cput_eq F o.dst v fun F => k F m'
          rw [h1] at h
          refine hc _ _ _ _ _ hg _ ?_
          rw [← h2]
          exact hK _ _ h
        · cases h
      · cases h
    · rename_i hnc
      obtain ⟨v, m', h1, h2⟩ := cOp_sound h
      obtain ⟨F', h3, h4⟩ := cput_eq F o.dst v fun F => k F m'
      rw [h3] at h2
      have hgoal : K (Fr.put (absF F) o.dst v) m'.abs := by rw [← h4]; exact hK _ _ h2
      obtain ⟨dst, op, ty, pos, after, guard⟩ := o
      cases op with
      | call c =>
        obtain ⟨callee, args, at'⟩ := c
        cases callee with
        | value f => exact absurd rfl (hnc _ _ _)
        | _ => simp only at h1 ⊢; rw [h1]; exact hgoal
      | _ => simp only at h1 ⊢; rw [h1]; exact hgoal

def cOps (P : Program) (call : CCall L) (ops : Array Oper) : List Oper → Tr Value → CMem L → (Tr Value → CMem L → Option β) → Option β
  | [], F, m, k => k F m
  | o :: rest, F, m, k => cStep P call ops o F m m.next (m.next + 1) fun F' m' => cOps P call ops rest F' m' k

theorem cOps_sound {ccall : CCall L} {call : Spec L} (hc : CallsFit ccall call) {ops : Array Oper} {k : Tr Value → CMem L → Option β} {r : β} {K : Fr → AMem L → Prop} (hK : ∀ F' m', k F' m' = some r → K (absF F') m'.abs) : ∀ (l : List Oper) (F : Tr Value) (m : CMem L),
    cOps P ccall ops l F m k = some r → aOps P call ops l (absF F) m.abs K
  | [], F, m, h => hK _ _ h
  | o :: rest, F, m, h => cStep_sound hc h fun F' m' h' => cOps_sound hc hK rest F' m' h'

/-! Equal values. -/
def sameC : Value → Value → Bool
  | .int k a, .int k' b => decide (k = k') && decide (a = b)
  | .float k a, .float k' b => decide (k = k') && decide (a = b)
  | .bool a, .bool b => a == b
  | .string a, .string b => decide (a.data.toList = b.data.toList)
  | .pointer a, .pointer b => decide (a = b)
  | .slice a n c, .slice b n' c' => decide (a = b) && decide (n = n') && decide (c = c')
  | .map a, .map b => decide (a = b)
  | .nilFunc, .nilFunc => true
  | .nilIface, .nilIface => true
  | _, _ => false
theorem sameC_eq {a b : Value} (h : sameC a b = true) : a = b := by
  unfold sameC at h
  split at h <;> first | (simp at h; done) | simp_all
  rename_i x y
  cases x; cases y
  simp only [ByteArray.mk.injEq] at h ⊢
  first | exact h | exact Array.toList_inj.1 h
def sameL : List Value → List Value → Bool
  | [], [] => true
  | x :: xs, y :: ys => sameC x y && sameL xs ys
  | _, _ => false
theorem sameL_eq : ∀ {a b : List Value}, sameL a b = true → a = b
  | [], [], _ => rfl
  | x :: xs, y :: ys, h => by
    simp only [sameL, Bool.and_eq_true] at h
    rw [sameC_eq h.1, sameL_eq h.2]
  | [], _ :: _, h => by cases h
  | _ :: _, [], h => by cases h
def sameV : Value → Value → Bool
  | .agg xs, .agg ys => sameL xs.toList ys.toList
  | a, b => sameC a b
theorem sameV_eq {a b : Value} (h : sameV a b = true) : a = b := by
  unfold sameV at h
  split at h
  · rw [Array.toList_inj.1 (sameL_eq h)]
  · exact sameC_eq h

def seen (P : Program) (ops : Array Oper) (base : Nat) (F : Tr Value) (m m' : CMem L) (j : Nat) : Bool :=
  match ops[j]? with
  | none => true
  | some oj => match aWanted ops oj (absF F) with
    | some true => looks P oj.op && !makes P oj.op && (match aOp P oj.op (absF F) m.abs (base + j) m.next with
      | none => false
      | some (v, _) => match aOp P oj.op (absF F) m'.abs (base + j) m'.next with
        | none => false
        | some (v', _) => sameV v v')
    | _ => true

theorem seen_sound {ops : Array Oper} {base : Nat} {F : Tr Value} {m m' : CMem L} {j : Nat} (h : seen P ops base F m m' j = true) : ∀ oj, ops[j]? = some oj → aWanted ops oj (absF F) = some true →
    ∃ v, aOp P oj.op (absF F) m.abs (base + j) m.abs.next = some (v, m.abs) ∧ aOp P oj.op (absF F) m'.abs (base + j) m'.abs.next = some (v, m'.abs) := by
  intro oj hoj hw
  unfold seen at h
  rw [hoj] at h
  simp only [hw, Bool.and_eq_true, Bool.not_eq_true'] at h
  obtain ⟨⟨h0, h1⟩, h2⟩ := h
  split at h2
  · cases h2
  · rename_i v σ1 e1
    split at h2
    · cases h2
    · rename_i v' σ2 e2
      have hv := sameV_eq h2
      subst hv
      have r1 := (looks_le h0 h1 e1).1
      have r2 := (looks_le h0 h1 e2).1
      subst r1; subst r2
      exact ⟨v, e1, e2⟩

def cPlan (P : Program) (call : CCall L) (ops : Array Oper) (base : Nat) : List (PItem × List Nat) → (Nat → Option (AObj L)) → Tr Value → CMem L → (Tr Value → CMem L → Option β) → Option β
  | [], _, F, m, k => k F m
  | (.op i, ls) :: rest, pend, F, m, k =>
    match ops[i]? with
    | none => none
    | some o => forceN (base + i) fun b => cStep P call ops o F m b m.next fun F' m' =>
        match ls.all (seen P ops base F m m') with
        | true => cPlan P call ops base rest pend F' m' k
        | false => none
  | (.mk i, _) :: rest, pend, F, m, k =>
    match ops[i]? with
    | none => none
    | some o => match aWanted ops o (absF F) with
      | none => none
      | some false => cput F o.dst skipped fun F => cPlan P call ops base rest pend F m k
      | some true => forceN (base + i) fun b => match aNew P L o.op (absF F) b with
        | some (v, ob) => forceV v fun v => forceO ob fun ob => cput F o.dst v fun F => cPlan P call ops base rest (setPend pend i ob) F m k
        | none => none
  | (.reveal i, _) :: rest, pend, F, m, k =>
    match pend i with
    | some ob => forceN (base + i) fun b => Tr.forceT (m.tr.set b (some ob)) fun t => cPlan P call ops base rest pend F ⟨m.next, t⟩ k
    | none => cPlan P call ops base rest pend F m k

theorem cPlan_sound {ccall : CCall L} {call : Spec L} (hc : CallsFit ccall call) {ops : Array Oper} {base : Nat} {k : Tr Value → CMem L → Option β} {r : β} {K : Fr → AMem L → Prop} (hK : ∀ F' m', k F' m' = some r → K (absF F') m'.abs) : ∀ (l : List (PItem × List Nat)) (pend : Nat → Option (AObj L)) (F : Tr Value) (m : CMem L),
    cPlan P ccall ops base l pend F m k = some r → aPlan P call ops base l pend (absF F) m.abs K
  | [], _, F, m, h => hK _ _ h
  | (.op i, ls) :: rest, pend, F, m, h => by
    simp only [cPlan] at h
    simp only [aPlan]
    split at h
    · cases h
    · rename_i o ho
      rw [forceN_eq] at h
      rw [ho]
      refine cStep_sound hc h fun F' m' h' => ?_
      split at h'
      · rename_i hall
        rw [List.all_eq_true] at hall
        exact ⟨fun j hj => seen_sound (hall j hj), cPlan_sound hc hK rest pend F' m' h'⟩
      · cases h'
  | (.mk i, ls) :: rest, pend, F, m, h => by
    simp only [cPlan] at h
    simp only [aPlan]
    split at h
    · cases h
    · rename_i o ho
      rw [ho]
      simp only
      split at h
      · cases h
      · rename_i hw
        rw [hw]
        obtain ⟨F', h1, h2⟩ := cput_eq F o.dst skipped fun F => cPlan P ccall ops base rest pend F m k
        rw [h1] at h
        simp only [← h2]
        exact cPlan_sound hc hK rest pend F' m h
      · rename_i hw
        rw [hw, forceN_eq] at *
        split at h
        · rename_i v ob hn
          rw [forceV_eq, forceO_eq] at h
          obtain ⟨F', h1, h2⟩ := cput_eq F o.dst v fun F => cPlan P ccall ops base rest (setPend pend i ob) F m k
          rw [h1] at h
          simp only [hn, ← h2]
          exact cPlan_sound hc hK rest _ F' m h
        · cases h
  | (.reveal i, ls) :: rest, pend, F, m, h => by
    simp only [cPlan] at h
    simp only [aPlan]
    split at h
    · rename_i ob hob
      rw [forceN_eq, Tr.forceT_eq] at h
      rw [hob]
      have := cPlan_sound hc hK rest pend F ⟨m.next, m.tr.set (base + i) (some ob)⟩ h
      have e : (⟨m.next, m.tr.set (base + i) (some ob)⟩ : CMem L).abs = m.abs.put (base + i) m.abs.next ob := by
        refine amem_ext rfl fun x => ?_
        simp only [CMem.abs, Tr.get_set, AMem.get_put]
      simp only
      rw [← e]; exact this
    · rename_i hob
      rw [hob]
      exact cPlan_sound hc hK rest pend F m h

abbrev Out (L : Type) := Option (Exit × Tr Value × CMem L)

def cLoop (body : Tr Value → CMem L → Out L) : Nat → Tr Value → CMem L → Out L
  | 0, _, _ => none
  | n + 1, F, m => match body F m with
    | some (.normal, F', m') => cLoop body n F' m'
    | r => r

def cCode (P : Program) (call : CCall L) (plans : Plans) (N : Nat) : Code → Tr Value → CMem L → Out L
  | .skip, F, m | .label _, F, m => some (.normal, F, m)
  | .region id ops draw, F, m =>
    match draw with
    | true => forceN (m.next + ops.size) fun n => cPlan P call ops m.next (plans id) (fun _ => none) F ⟨n, m.tr⟩ fun F m => some (.normal, F, m)
    | false => cOps P call ops ops.toList F m fun F m => some (.normal, F, m)
  | .seq a b, F, m => match cCode P call plans N a F m with
    | some (.normal, F', m') => cCode P call plans N b F' m'
    | r => r
  | .cond c a b, F, m => match aEval (absF F) c with
    | .bool true => cCode P call plans N a F m
    | .bool false => cCode P call plans N b F m
    | _ => none
  | .block id c, F, m => match cCode P call plans N c F m with
    | some (.exit i, F', m') => match i == id with
      | true => some (.normal, F', m')
      | false => some (.exit i, F', m')
    | r => r
  | .loop c, F, m => cLoop (cCode P call plans N c) N F m
  | .exit id, F, m => some (.exit id, F, m)
  | .scope c, F, m => match cCode P call plans N c F m with
    | some (.goto _, _, _) => none
    | r => r
  | .ret, F, m => some (.ret, F, m)
  | _, _, _ => none

theorem cCode_sound {ccall : CCall L} {call : Spec L} (hc : CallsFit ccall call) {plans : Plans} {N : Nat} : ∀ (c : Code) (Q : Exit → Fr → AMem L → Prop) (F : Tr Value) (m : CMem L) (e : Exit) (F' : Tr Value) (m' : CMem L),
    cCode P ccall plans N c F m = some (e, F', m') → Q e (absF F') m'.abs → aCode P call plans c Q (absF F) m.abs := by
  intro c
  induction c with
  | skip => intro Q F m e F' m' h hQ; simp only [cCode, Option.some.injEq, Prod.mk.injEq] at h; obtain ⟨rfl, rfl, rfl⟩ := h; exact hQ
  | label l => intro Q F m e F' m' h hQ; simp only [cCode, Option.some.injEq, Prod.mk.injEq] at h; obtain ⟨rfl, rfl, rfl⟩ := h; exact hQ
  | exit id => intro Q F m e F' m' h hQ; simp only [cCode, Option.some.injEq, Prod.mk.injEq] at h; obtain ⟨rfl, rfl, rfl⟩ := h; exact hQ
  | ret => intro Q F m e F' m' h hQ; simp only [cCode, Option.some.injEq, Prod.mk.injEq] at h; obtain ⟨rfl, rfl, rfl⟩ := h; exact hQ
  | region id ops draw =>
    intro Q F m e F' m' h hQ
    have hK : ∀ F1 m1, (fun F m => some (Exit.normal, F, m)) F1 m1 = some (e, F', m') → Q .normal (absF F1) m1.abs := by
      intro F1 m1 h1
      simp only [Option.some.injEq, Prod.mk.injEq] at h1
      obtain ⟨rfl, rfl, rfl⟩ := h1; exact hQ
    cases draw with
    | true =>
      simp only [cCode] at h
      rw [forceN_eq] at h
      simp only [aCode, if_true]
      exact cPlan_sound hc hK _ _ _ _ h
    | false =>
      simp only [cCode] at h
      simp only [aCode, Bool.false_eq_true, if_false]
      exact cOps_sound hc hK _ _ _ h
  | seq a b iha ihb =>
    intro Q F m e F' m' h hQ
    simp only [cCode] at h
    simp only [aCode]
    split at h
    · rename_i F1 m1 h1
      exact iha _ F m _ _ _ h1 (ihb Q F1 m1 e F' m' h hQ)
    · rename_i hne
      refine iha _ F m e F' m' h ?_
      cases e with
      | normal => exact absurd h (hne F' m')
      | _ => exact hQ
  | cond c a b iha ihb =>
    intro Q F m e F' m' h hQ
    simp only [cCode] at h
    simp only [aCode]
    split at h
    · rename_i hb; rw [hb]; exact iha Q F m e F' m' h hQ
    · rename_i hb; rw [hb]; exact ihb Q F m e F' m' h hQ
    · cases h
  | block id c ih =>
    intro Q F m e F' m' h hQ
    simp only [cCode] at h
    simp only [aCode]
    split at h
    · rename_i i F1 m1 h1
      split at h
      · rename_i hi
        simp only [Option.some.injEq, Prod.mk.injEq] at h
        obtain ⟨rfl, rfl, rfl⟩ := h
        refine ih _ F m _ _ _ h1 ?_
        simp only [beq_iff_eq] at hi
        simp only [exBlock, if_pos hi]; exact hQ
      · rename_i hi
        simp only [Option.some.injEq, Prod.mk.injEq] at h
        obtain ⟨rfl, rfl, rfl⟩ := h
        refine ih _ F m _ _ _ h1 ?_
        simp only [beq_eq_false_iff_ne, ne_eq] at hi
        simp only [exBlock, if_neg hi]; exact hQ
    · rename_i hne
      refine ih _ F m e F' m' h ?_
      cases e with
      | exit i => exact absurd h (hne i F' m')
      | _ => exact hQ
  | loop c ih =>
    intro Q F m e F' m' h hQ
    simp only [cCode] at h
    simp only [aCode]
    refine ⟨fun F => F, fun n F1 σ1 => ∃ F2 m2, F1 = absF F2 ∧ σ1 = m2.abs ∧ cLoop (cCode P ccall plans N c) n F2 m2 = some (e, F', m'), fun _ _ => .inl rfl, ⟨N, F, m, rfl, rfl, h⟩, ?_⟩
    rintro n _ _ ⟨F2, m2, rfl, rfl, hl⟩
    cases n with
    | zero => cases hl
    | succ n =>
      simp only [cLoop] at hl
      split at hl
      · rename_i F3 m3 h3
        exact ih _ F2 m2 _ _ _ h3 ⟨n, by omega, F3, m3, rfl, rfl, hl⟩
      · rename_i hne
        refine ih _ F2 m2 e F' m' hl ?_
        cases e with
        | normal => exact absurd hl (hne F' m')
        | _ => exact hQ
  | scope c ih =>
    intro Q F m e F' m' h hQ
    simp only [cCode] at h
    simp only [aCode]
    split at h
    · cases h
    · rename_i hne
      refine ih _ F m e F' m' h ?_
      cases e with
      | goto l => exact absurd h (hne l F' m')
      | _ => exact hQ
  | rangeFunc f ps x y _ _ => intro Q F m e F' m' h; simp [cCode] at h
  | goto l => intro Q F m e F' m' h; simp [cCode] at h
  | refuse s => intro Q F m e F' m' h; simp [cCode] at h

end Go.Ax
