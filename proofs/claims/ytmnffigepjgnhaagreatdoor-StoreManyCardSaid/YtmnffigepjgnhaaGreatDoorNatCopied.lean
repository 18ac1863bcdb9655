/- names.copied: rounds over a map that fill another one. -/
import Derived.Test.YtmnffigepjgnhaaGreatDoorNatSize
import Derived.Test.YtmnffigepjgnhaaGreatDoorAxF
set_option linter.unusedVariables false
set_option linter.unusedSimpArgs false
namespace Go.Proofs
open Go Go.Ax
set_option maxRecDepth 100000
variable {L : Type}

/-- Texts, each another one. -/
def strKeys : List (Value × Value) → Bool
  | [] => true
  | kv :: es => (match kv.1 with | .string _ => true | _ => false) && es.all (fun x => !keyEq kv.1 x.1) && strKeys es

theorem strKeys_spec : ∀ {es : List (Value × Value)}, strKeys es = true → (∀ x ∈ es, ∃ s, x.1 = .string s) ∧ es.Pairwise (fun a b => keyEq a.1 b.1 = false)
  | [], _ => ⟨fun x h => (by cases h), .nil⟩
  | kv :: es, h => by
    unfold strKeys at h
    simp only [Bool.and_eq_true, List.all_eq_true, Bool.not_eq_true'] at h
    obtain ⟨⟨h1, h2⟩, h3⟩ := h
    obtain ⟨k1, k2⟩ := strKeys_spec h3
    refine ⟨fun x hx => ?_, .cons h2 k2⟩
    rcases List.mem_cons.1 hx with rfl | hx
    · split at h1
      · exact ⟨_, by assumption⟩
      · cases h1
    · exact k1 x hx

theorem keyEq_sym (a b : Value) : keyEq a b = keyEq b a := by
  have key : ∀ a b, keyEq a b = true → keyEq b a = true := fun a b h => by
    have hf : keyFlat a = true := by cases a <;> cases b <;> first | rfl | (unfold keyEq at h; cases h)
    have := (keyEq_iff hf).1 h
    subst this
    exact h
  cases h : keyEq a b with
  | true => exact (key a b h).symm
  | false =>
    cases h' : keyEq b a with
    | true => rw [key b a h'] at h; cases h
    | false => rfl

theorem keyFits_str (s : ByteArray) : keyFits .string (.string s) = true := by simp only [keyFits]

theorem strKeys_perm {es l : List (Value × Value)} (h : strKeys es = true) (hp : l.Perm es) : (∀ x ∈ l, ∃ s, x.1 = .string s) ∧ l.Pairwise (fun a b => keyEq a.1 b.1 = false) := by
  obtain ⟨h1, h2⟩ := strKeys_spec h
  exact ⟨fun x hx => h1 x (hp.mem_iff.1 hx), (hp.pairwise_iff (fun {a b} hab => by rw [keyEq_sym]; exact hab)).2 h2⟩

theorem mapSet_new (k v : Value) : ∀ (es : List (Value × Value)), (∀ x ∈ es, keyEq k x.1 = false) → mapSet k v es = es ++ [(k, v)]
  | [], _ => rfl
  | (k', v') :: es, h => by
    unfold mapSet
    rw [if_neg (by rw [h (k', v') (.head _)]; simp), mapSet_new k v es fun x hx => h x (.tail _ hx)]; rfl

theorem copied_body (call : Ax.Spec L) (K : Value → AMem L → Prop) (r : Nat) (es : List (Value × Value)) (σ : AMem L) (hr : σ.get r = some (.map es)) (hlt : r < σ.next) (hk : strKeys es = true)
    (hK : ∀ σ1 es1, es1.Perm es → σ1.next = σ.next + 2 → (∀ x, σ1.get x = if x = σ.next then some (.map es1) else σ.get x) → K (.map (some σ.next)) σ1) :
    aBodyX PP call plans141 Tryz.f141 code141 [.map (some r)] σ K := by
  refine ⟨by simp only [List.length_cons, List.length_nil]; decide +kernel, ?_⟩
  unfold code141 Tryz.f141
  have hr' : (σ.put σ.next (σ.next + 1) (.map [])).get r = some (.map es) := by rw [AMem.get_put, if_neg (by omega)]; exact hr
  simp only [Option.getD_some, Option.bind_some, Option.map_some, Option.map_none, Option.bind_none, aCode, aOps, aPlan, aStep, aWanted, aOp, valued, silent, Bool.false_eq_true, if_false, if_true, exThen, exBlock, exScope, put_some, put_none, evT, evC, evF, set_same, set_ne, Nat.reduceBEq, Nat.reduceEqDiff, aBinO, isNilWord, isNilV, isAggV, Bool.false_and, Bool.and_false, aBin, intBin, aUn, aBuiltin, aMin, aMax, aArgs, List.getD_cons_zero, List.getD_cons_succ, List.map_cons, List.map_nil, aEnd, aResults, aResult, List.mapM_cons, List.mapM_nil, List.cons_append, List.nil_append, List.append_nil, Option.pure_def, Option.bind_eq_bind, keep_mem, List.mem_cons, List.not_mem_nil, or_false, false_or, true_or, or_true, reduceIte, not_false_eq_true, forall_const, and_true, true_and, List.forall_mem_nil, reduceCtorEq, isEq, Array.toList_map, AMem.next_put, AMem.next_kill, AMem.next_set, AMem.next_skipTo, eq_self, laid_int, laid_bool, laid_string, laid_slice, laid_pointer, mp_59, un_59, un_9, zr_86, aCodeX, rangeOf, List.reverse_cons, List.reverse_nil, beq_self_eq_true, Bool.and_true, Bool.and_self, Nat.reduceBNe, aRange, Nat.zero_add, Option.map_some, hr]
  refine ⟨r, es, rfl, hr', ⟨_, _, rfl⟩, fun l F σ' => F 8 = .pointer (some ⟨σ.next + 1, 0, none⟩) ∧ F 3 = .map (some σ.next) ∧ σ'.next = σ.next + 2 ∧ ∃ done, (done ++ l).Perm es ∧ ∀ x, σ'.get x = if x = σ.next then some (.map done) else if x = r then none else σ.get x, ?_, ?_, ?_⟩
  · simp only [Option.getD_some, Option.bind_some, Option.map_some, Option.map_none, Option.bind_none, aCode, aOps, aPlan, aStep, aWanted, aOp, valued, silent, Bool.false_eq_true, if_false, if_true, exThen, exBlock, exScope, put_some, put_none, evT, evC, evF, set_same, set_ne, Nat.reduceBEq, Nat.reduceEqDiff, aBinO, isNilWord, isNilV, isAggV, Bool.false_and, Bool.and_false, aBin, intBin, aUn, aBuiltin, aMin, aMax, aArgs, List.getD_cons_zero, List.getD_cons_succ, List.map_cons, List.map_nil, aEnd, aResults, aResult, List.mapM_cons, List.mapM_nil, List.cons_append, List.nil_append, List.append_nil, Option.pure_def, Option.bind_eq_bind, keep_mem, List.mem_cons, List.not_mem_nil, or_false, false_or, true_or, or_true, reduceIte, not_false_eq_true, forall_const, and_true, true_and, List.forall_mem_nil, reduceCtorEq, isEq, Array.toList_map, AMem.next_put, AMem.next_kill, AMem.next_set, AMem.next_skipTo, eq_self, laid_int, laid_bool, laid_string, laid_slice, laid_pointer, mp_59, un_59, un_9, zr_86]
    refine ⟨[], by simp, fun x => ?_⟩
    rw [AMem.get_kill, AMem.get_skipTo, AMem.get_put]
    by_cases hx : x = σ.next
    · subst hx; rw [if_neg (by omega), if_pos rfl, if_pos rfl]
    · rw [if_neg hx, if_neg hx]
  · rintro l1 kv l2 F2 σ2 ⟨h8, h3, hnx, done, hp, hg⟩
    obtain ⟨hs, hpw⟩ := strKeys_perm hk hp
    obtain ⟨s, hks⟩ := hs kv (by simp)
    have hpw2 := List.pairwise_append.1 hpw
    have hset : mapSet kv.1 kv.2 done = done ++ [kv] := by
      refine mapSet_new _ _ _ fun x hx => ?_
      rw [keyEq_sym]
      exact hpw2.2.2 x hx kv (by simp)
    have hfit : done.all (fun x => keyFits .string x.1) = true := by
      refine List.all_eq_true.2 fun x hx => ?_
      obtain ⟨s', hs'⟩ := hs x (by simp [hx])
      rw [hs']; rfl
    have hN : σ2.get σ.next = some (.map done) := by rw [hg, if_pos rfl]
    simp only [Option.getD_some, Option.bind_some, Option.map_some, Option.map_none, Option.bind_none, aCode, aOps, aPlan, aStep, aWanted, aOp, valued, silent, Bool.false_eq_true, if_false, if_true, exThen, exBlock, exScope, put_some, put_none, evT, evC, evF, set_same, set_ne, Nat.reduceBEq, Nat.reduceEqDiff, aBinO, isNilWord, isNilV, isAggV, Bool.false_and, Bool.and_false, aBin, intBin, aUn, aBuiltin, aMin, aMax, aArgs, List.getD_cons_zero, List.getD_cons_succ, List.map_cons, List.map_nil, aEnd, aResults, aResult, List.mapM_cons, List.mapM_nil, List.cons_append, List.nil_append, List.append_nil, Option.pure_def, Option.bind_eq_bind, keep_mem, List.mem_cons, List.not_mem_nil, or_false, false_or, true_or, or_true, reduceIte, not_false_eq_true, forall_const, and_true, true_and, List.forall_mem_nil, reduceCtorEq, isEq, Array.toList_map, AMem.next_put, AMem.next_kill, AMem.next_set, AMem.next_skipTo, eq_self, laid_int, laid_bool, laid_string, laid_slice, laid_pointer, mp_59, un_59, un_9, zr_86, aRound, List.getElem?_toArray, List.getElem?_cons_succ, List.getElem?_cons_zero, aMapUpdate, h3, h8, hN, hks, keyFits_str, hfit, Bool.true_and]
    rw [hks] at hset
    refine ⟨hnx, done ++ [kv], ?_, fun x => ?_⟩
    · refine List.Perm.trans ?_ hp
      rw [List.append_assoc]
      exact List.Perm.append_left _ (List.perm_middle (a := kv) (l₁ := l1) (l₂ := l2)).symm
    · rw [AMem.get_set, hset]
      by_cases hx : x = σ.next
      · rw [if_pos hx, if_pos hx]
      · rw [if_neg hx, if_neg hx, hg, if_neg hx]
  · rintro F2 σ2 ⟨h8, h3, hnx, done, hp, hg⟩ _
    rw [h3]
    refine hK _ done (by simpa using hp) hnx fun x => ?_
    rw [AMem.get_put]
    by_cases hx : x = r
    · subst hx; rw [if_pos rfl, if_neg (by omega), hr]
    · rw [if_neg hx, hg, if_neg hx]

/-- As the runner has it. -/
def natCopied (args : List Value) (m : CMem L) : Option (Value × CMem L) :=
  match args with
  | [.map (some r)] => match m.tr.get r with
    | some (.map es) => match Nat.blt r m.next && strKeys es with
      | true => forceN m.next fun b => forceN (b + 2) fun nx => Tr.forceT (m.tr.set b (some (.map es))) fun t => some (.map (some b), ⟨nx, t⟩)
      | false => none
    | _ => none
  | _ => none

theorem copied_law (call : Ax.Spec L) (args : List Value) (σ : AMem L) (K : Value → AMem L → Prop) (h : runSpec (fun _ args m => natCopied args m) 0 args σ K) :
    aBodyX PP call plans141 Tryz.f141 code141 args σ (fun v σ1 => ∃ σ', Less σ1 σ' ∧ K v σ') := by
  obtain ⟨m, v, m', rfl, h, hK⟩ := h
  simp only at h
  unfold natCopied at h
  split at h
  · rename_i r
    split at h
    · rename_i es hr
      split at h
      · rename_i hb
        rw [forceN_eq, forceN_eq, Tr.forceT_eq] at h
        cases h
        rw [Bool.and_eq_true, Nat.blt_eq] at hb
        refine copied_body call _ r es m.abs hr hb.1 hb.2 fun σ1 es1 hp hn hg => ⟨_, ⟨?_, fun x => ?_⟩, hK⟩
        · rw [hn]; exact Nat.le_refl _
        · have e : (⟨m.next + 2, m.tr.set m.next (some (.map es))⟩ : CMem L).abs.get x = if x = m.abs.next then some (.map es) else m.abs.get x := Tr.get_set ..
          rw [e, hg]
          by_cases hx : x = m.abs.next
          · rw [if_pos hx, if_pos hx]; exact .inr (.inr ⟨es1, es, rfl, rfl, hp⟩)
          · rw [if_neg hx, if_neg hx]; exact .inl rfl
      · cases h
    · cases h
  · cases h
end Go.Proofs
