/- names.sorted: a map's keys, sorted. -/
import Derived.Test.YtmnffigepjgnhaaGreatDoorNatCopied
import Derived.Test.YtmnffigepjgnhaaGreatDoorAxF
set_option linter.unusedVariables false
set_option linter.unusedSimpArgs false
namespace Go.Proofs
open Go Go.Ax
set_option maxRecDepth 100000
variable {L : Type}

theorem push_at {P : Program} {σ : AMem L} {e by_ : Nat} {s z v : Value} {olds : List Value} {t : TypeId} {b nx c : Nat} (hu : Program.underlying P t = some (.slice e)) (he : Ax.elemOf P t = some e) (hs : Ax.szOf P e = some 1) (hz : Ax.zeroOf P e = some z) (hb : Ax.bytesOf P e = some by_)
    (h1 : goodZero 1 by_ z = true) (h2 : oneCells [v] = true) (h3 : (olds.length + 1) * by_ ≤ 2 ^ 46) (hc : σ.get c = some (.cells [v] e false))
    (hso : (s = .slice none 0 0 ∧ olds = []) ∨ ∃ B, s = .slice (some ⟨B, 0, none⟩) olds.length olds.length ∧ σ.get B = some (.cells olds e false)) :
    ∃ σ', aAppend P t t s (.slice (some ⟨c, 0, none⟩) 1 1) σ b nx = some (.slice (some ⟨b, 0, none⟩) (olds.length + 1) (olds.length + 1), σ') ∧ σ'.next = nx ∧ σ'.get b = some (.cells (olds ++ [v]) e false) ∧
      ∀ y, y ≠ b → Off y s → σ'.get y = σ.get y := by
  have hsrc : Slc P σ 1 (.slice (some ⟨c, 0, none⟩) 1 1) 1 [v] := ⟨rfl, .inr ⟨c, 0, [v], e, false, rfl, hc, hs, by simp, by simp⟩⟩
  have hx := hsrc.src hu
  have h3' : ¬ ((olds.length + 1) * by_ > 2 ^ 46) := by omega
  obtain ⟨g1, g2, g3, _⟩ := goodZero_spec h1
  have hcond : (decide False || decide (by_ = 0) || decide (z.cells.size ≠ 1) || !oneCells [v] || decide ((olds.length + [v].length) * by_ > 2 ^ 46)) = false := by
    simp only [g1, g3, h2, List.length_singleton, decide_eq_false h3', Bool.not_true, Bool.or_false, ne_eq, not_true, decide_false, Nat.one_ne_zero]
  rcases hso with ⟨rfl, rfl⟩ | ⟨B, rfl, hB⟩
  · have hcells : sliceCells σ 1 (.slice none 0 0) = some ([] : List Value) := (Slc.nil P σ 1).cells
    refine ⟨σ.put b nx (.cells [v] e false), ?_, rfl, by rw [AMem.get_put, if_pos rfl]; rfl, fun y hy _ => by rw [AMem.get_put, if_neg hy]⟩
    unfold aAppend
    simp only [he, hs, hz, hb, hx, hcells, hcond, Bool.false_eq_true, if_false, Nat.one_ne_zero]
    rfl
  · have hsl : Slc P σ 1 (.slice (some ⟨B, 0, none⟩) olds.length olds.length) olds.length olds := ⟨by omega, .inr ⟨B, 0, olds, e, false, rfl, hB, hs, by omega, by simp⟩⟩
    have hcells := hsl.cells
    refine ⟨(σ.kill B).put b nx (.cells (olds ++ [v]) e false), ?_, rfl, by rw [AMem.get_put, if_pos rfl], fun y hy ho => by rw [AMem.get_put, if_neg hy]; exact (AMem.get_kill ..).trans (if_neg ho)⟩
    unfold aAppend
    simp only [he, hs, hz, hb, hx, hcells, hcond, Bool.false_eq_true, if_false, Nat.one_ne_zero, hB, if_true]

theorem sorted_body (call : Ax.Spec L) (K : Value → AMem L → Prop) (r : Nat) (es : List (Value × Value)) (σ : AMem L) (hr : σ.get r = some (.map es)) (hlt : r < σ.next) (hk : strKeys es = true) (hmost : es.length < 1000000) (out : List Value)
    (h0 : ∀ σ1 K, K (.tuple #[]) σ1 → call 64 [.slice none 0 0, .func (.func 65) #[] #[]] σ1 K)
    (h1 : ∀ ks, ks ≠ [] → ks.Perm (es.map (·.1)) → ∀ σ1 b K, σ1.get b = some (.cells ks 9 false) → K (.tuple #[]) (σ1.set b (.cells out 9 false)) →
      call 64 [.slice (some ⟨b, 0, none⟩) ks.length ks.length, .func (.func 65) #[] #[]] σ1 K)
    (hK0 : es = [] → ∀ σ1, σ1.next = σ.next + 1 → (∀ x, x < σ.next → σ1.get x = σ.get x) → K (.slice none 0 0) σ1)
    (hK : es ≠ [] → ∀ σ1, σ1.next = σ.next + 1 + 2 * es.length → (∀ x, x < σ.next → σ1.get x = σ.get x) → σ1.get (σ.next + 2 * es.length) = some (.cells out 9 false) → K (.slice (some ⟨σ.next + 2 * es.length, 0, none⟩) es.length es.length) σ1) :
    aBodyX PP call plans28 Tryz.f28 code28 [.map (some r)] σ K := by
  refine ⟨by simp only [List.length_cons, List.length_nil]; decide +kernel, ?_⟩
  unfold code28 Tryz.f28
  simp only [Option.getD_some, Option.bind_some, Option.map_some, Option.map_none, Option.bind_none, aCode, aOps, aPlan, aStep, aWanted, aOp, valued, silent, Bool.false_eq_true, if_false, if_true, exThen, exBlock, exScope, put_some, put_none, evT, evC, evF, set_same, set_ne, Nat.reduceBEq, Nat.reduceEqDiff, aBinO, isNilWord, isNilV, isAggV, Bool.false_and, Bool.and_false, aBin, intBin, aUn, aBuiltin, aMin, aMax, aArgs, List.getD_cons_zero, List.getD_cons_succ, List.map_cons, List.map_nil, aEnd, aResults, aResult, List.mapM_cons, List.mapM_nil, List.cons_append, List.nil_append, List.append_nil, Option.pure_def, Option.bind_eq_bind, keep_mem, List.mem_cons, List.not_mem_nil, or_false, false_or, true_or, or_true, reduceIte, not_false_eq_true, forall_const, and_true, true_and, List.forall_mem_nil, reduceCtorEq, isEq, Array.toList_map, AMem.next_put, AMem.next_kill, AMem.next_set, AMem.next_skipTo, eq_self, laid_int, laid_bool, laid_string, laid_slice, laid_pointer, bo_84, by_9, el_84, sz_9, un_59, un_84, zr_9, aCodeX, rangeOf, List.reverse_cons, List.reverse_nil, beq_self_eq_true, Bool.and_true, Bool.and_self, Nat.reduceBNe, aRange, Nat.zero_add, Option.map_some, hr]
  refine ⟨r, es, rfl, hr, ⟨_, _, rfl⟩, fun l F σ' => F 6 = .pointer (some ⟨σ.next, 0, none⟩) ∧ ∃ done, (done ++ l).Perm es ∧ σ'.next = σ.next + 1 + 2 * done.length ∧ (∀ x, x < σ.next → σ'.get x = if x = r then none else σ.get x) ∧
    ((F 3 = .slice none 0 0 ∧ done = []) ∨ (F 3 = .slice (some ⟨σ.next + 2 * done.length, 0, none⟩) done.length done.length ∧ done ≠ [] ∧ σ'.get (σ.next + 2 * done.length) = some (.cells (done.map (·.1)) 9 false))), ?_, ?_, ?_⟩
  · simp only [Option.getD_some, Option.bind_some, Option.map_some, Option.map_none, Option.bind_none, aCode, aOps, aPlan, aStep, aWanted, aOp, valued, silent, Bool.false_eq_true, if_false, if_true, exThen, exBlock, exScope, put_some, put_none, evT, evC, evF, set_same, set_ne, Nat.reduceBEq, Nat.reduceEqDiff, aBinO, isNilWord, isNilV, isAggV, Bool.false_and, Bool.and_false, aBin, intBin, aUn, aBuiltin, aMin, aMax, aArgs, List.getD_cons_zero, List.getD_cons_succ, List.map_cons, List.map_nil, aEnd, aResults, aResult, List.mapM_cons, List.mapM_nil, List.cons_append, List.nil_append, List.append_nil, Option.pure_def, Option.bind_eq_bind, keep_mem, List.mem_cons, List.not_mem_nil, or_false, false_or, true_or, or_true, reduceIte, not_false_eq_true, forall_const, and_true, true_and, List.forall_mem_nil, reduceCtorEq, isEq, Array.toList_map, AMem.next_put, AMem.next_kill, AMem.next_set, AMem.next_skipTo, eq_self, laid_int, laid_bool, laid_string, laid_slice, laid_pointer, bo_84, by_9, el_84, sz_9, un_59, un_84, zr_9]
    refine ⟨[], by simp, rfl, fun x hx => ?_, .inl rfl⟩
    rw [AMem.get_kill, AMem.get_skipTo]
  · rintro l1 kv l2 F2 σ2 ⟨h6, done, hp, hnx, hg, h3⟩
    obtain ⟨hs, _⟩ := strKeys_perm hk hp
    obtain ⟨s, hks⟩ := hs kv (by simp)
    have hdl : done.length < es.length := by have := hp.length_eq; simp at this; omega
    obtain ⟨σ3, e1, e2, e3, e4⟩ := push_at (P := PP) (σ := σ2.put σ2.next (σ2.next + 1) (.cells [.string s] 9 false)) (v := .string s) (olds := done.map (·.1)) (s := F2 3) (b := σ2.next + 1) (nx := σ2.next + 1 + 1) (c := σ2.next) un_84 el_84 sz_9 zr_9 by_9 gz_9 rfl (by simp; omega) (by rw [AMem.get_put, if_pos rfl]) (by
        rcases h3 with ⟨h3, rfl⟩ | ⟨h3, hne, h4⟩
        · exact .inl ⟨h3, rfl⟩
        · refine .inr ⟨_, by simpa using h3, ?_⟩
          rw [AMem.get_put, if_neg (by have : 0 < done.length := List.length_pos_iff.2 hne
                                       omega)]
          exact h4)
    simp only [Option.getD_some, Option.bind_some, Option.map_some, Option.map_none, Option.bind_none, aCode, aOps, aPlan, aStep, aWanted, aOp, valued, silent, Bool.false_eq_true, if_false, if_true, exThen, exBlock, exScope, put_some, put_none, evT, evC, evF, set_same, set_ne, Nat.reduceBEq, Nat.reduceEqDiff, aBinO, isNilWord, isNilV, isAggV, Bool.false_and, Bool.and_false, aBin, intBin, aUn, aBuiltin, aMin, aMax, aArgs, List.getD_cons_zero, List.getD_cons_succ, List.map_cons, List.map_nil, aEnd, aResults, aResult, List.mapM_cons, List.mapM_nil, List.cons_append, List.nil_append, List.append_nil, Option.pure_def, Option.bind_eq_bind, keep_mem, List.mem_cons, List.not_mem_nil, or_false, false_or, true_or, or_true, reduceIte, not_false_eq_true, forall_const, and_true, true_and, List.forall_mem_nil, reduceCtorEq, isEq, Array.toList_map, AMem.next_put, AMem.next_kill, AMem.next_set, AMem.next_skipTo, eq_self, laid_int, laid_bool, laid_string, laid_slice, laid_pointer, bo_84, by_9, el_84, sz_9, un_59, un_84, zr_9, aRound, List.getElem?_toArray, List.getElem?_cons_succ, List.getElem?_cons_zero, h6, hks, e1]
    refine ⟨done ++ [kv], ?_, ?_, fun x hx => ?_, .inr ⟨?_, by simp, ?_⟩⟩
    · refine List.Perm.trans ?_ hp
      rw [List.append_assoc]
      exact List.Perm.append_left _ (List.perm_middle (a := kv) (l₁ := l1) (l₂ := l2)).symm
    · rw [e2, hnx]; simp; omega
    · rw [e4 x (by omega) ?_, AMem.get_put, if_neg (by omega), hg x hx]
      rcases h3 with ⟨h3, _⟩ | ⟨h3, hne, _⟩
      · rw [h3]; trivial
      · rw [h3]; show x ≠ σ.next + 2 * done.length; omega
    · rw [hnx]; simp only [List.length_map, List.length_append, List.length_singleton]; congr 3; omega
    · rw [List.map_append, List.map_singleton, hks, ← e3, hnx]; congr 1; simp only [List.length_append, List.length_singleton]; omega
  · rintro F2 σ2 ⟨h6, done, hp, hnx, hg, h3⟩ _
    have hp' : done.Perm es := by simpa using hp
    have hdl : done.length = es.length := hp'.length_eq
    rcases h3 with ⟨h3, rfl⟩ | ⟨h3, hne, h4⟩
    · simp only [Option.getD_some, Option.bind_some, Option.map_some, Option.map_none, Option.bind_none, aCode, aOps, aPlan, aStep, aWanted, aOp, valued, silent, Bool.false_eq_true, if_false, if_true, exThen, exBlock, exScope, put_some, put_none, evT, evC, evF, set_same, set_ne, Nat.reduceBEq, Nat.reduceEqDiff, aBinO, isNilWord, isNilV, isAggV, Bool.false_and, Bool.and_false, aBin, intBin, aUn, aBuiltin, aMin, aMax, aArgs, List.getD_cons_zero, List.getD_cons_succ, List.map_cons, List.map_nil, aEnd, aResults, aResult, List.mapM_cons, List.mapM_nil, List.cons_append, List.nil_append, List.append_nil, Option.pure_def, Option.bind_eq_bind, keep_mem, List.mem_cons, List.not_mem_nil, or_false, false_or, true_or, or_true, reduceIte, not_false_eq_true, forall_const, and_true, true_and, List.forall_mem_nil, reduceCtorEq, isEq, Array.toList_map, AMem.next_put, AMem.next_kill, AMem.next_set, AMem.next_skipTo, eq_self, laid_int, laid_bool, laid_string, laid_slice, laid_pointer, bo_84, by_9, el_84, sz_9, un_59, un_84, zr_9, h3]
      have he : es = [] := List.eq_nil_of_length_eq_zero hdl.symm
      refine h0 _ _ ?_
      refine hK0 he _ (by rw [AMem.next_put, hnx]; rfl) fun x hx => ?_
      rw [AMem.get_put]
      split
      · rename_i hxr; subst hxr; rw [hr]
      · rename_i hxr; rw [hg x hx, if_neg hxr]
    · simp only [Option.getD_some, Option.bind_some, Option.map_some, Option.map_none, Option.bind_none, aCode, aOps, aPlan, aStep, aWanted, aOp, valued, silent, Bool.false_eq_true, if_false, if_true, exThen, exBlock, exScope, put_some, put_none, evT, evC, evF, set_same, set_ne, Nat.reduceBEq, Nat.reduceEqDiff, aBinO, isNilWord, isNilV, isAggV, Bool.false_and, Bool.and_false, aBin, intBin, aUn, aBuiltin, aMin, aMax, aArgs, List.getD_cons_zero, List.getD_cons_succ, List.map_cons, List.map_nil, aEnd, aResults, aResult, List.mapM_cons, List.mapM_nil, List.cons_append, List.nil_append, List.append_nil, Option.pure_def, Option.bind_eq_bind, keep_mem, List.mem_cons, List.not_mem_nil, or_false, false_or, true_or, or_true, reduceIte, not_false_eq_true, forall_const, and_true, true_and, List.forall_mem_nil, reduceCtorEq, isEq, Array.toList_map, AMem.next_put, AMem.next_kill, AMem.next_set, AMem.next_skipTo, eq_self, laid_int, laid_bool, laid_string, laid_slice, laid_pointer, bo_84, by_9, el_84, sz_9, un_59, un_84, zr_9, h3]
      have h5 := h1 (done.map (·.1)) (by simpa using hne) (hp'.map _) (σ2.put r σ2.next (.map es)) (σ.next + 2 * done.length)
      rw [List.length_map] at h5
      refine h5 _ ?_ ?_
      · have : 0 < done.length := List.length_pos_iff.2 hne
        rw [AMem.get_put, if_neg (by omega)]; exact h4
      have hene : es ≠ [] := fun e => by rw [e] at hdl; exact hne (List.eq_nil_of_length_eq_zero hdl)
      rw [hdl]
      refine hK hene _ (by rw [AMem.next_set, AMem.next_put, hnx, hdl]) (fun x hx => ?_) (by rw [AMem.get_set, if_pos rfl])
      rw [AMem.get_set, if_neg (by omega), AMem.get_put]
      split
      · rename_i hxr; subst hxr; rw [hr]
      · rename_i hxr; rw [hg x hx, if_neg hxr]
end Go.Proofs
