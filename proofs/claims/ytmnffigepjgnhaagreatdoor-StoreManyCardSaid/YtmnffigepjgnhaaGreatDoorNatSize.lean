/- disk.size: rounds over a map. -/
import Derived.Test.YtmnffigepjgnhaaGreatDoorAxNFacts
import Derived.Test.YtmnffigepjgnhaaGreatDoorAxE
set_option linter.unusedVariables false
set_option linter.unusedSimpArgs false
namespace Go.Proofs
open Go Go.Ax
set_option maxRecDepth 100000
variable {L : Type}

theorem wrap_i64 {n : Int} (h0 : -9223372036854775808 ≤ n) (h1 : n < 9223372036854775808) : IntKind.wrap .i64 n = n := by
  simp [IntKind.wrap, IntKind.signed, IntKind.bits]
  omega

/-- How many bytes a map's files have. -/
def sizes (σ : AMem L) : List (Value × Value) → Option Nat
  | [] => some 0
  | kv :: es => match kv.2 with
    | .pointer (some ⟨f, 0, none⟩) => (match σ.get f with
      | some (.cells fs _ _) => (match (fs[2]? : Option Value) with | some (Value.slice _ n _) => (sizes σ es).map (n + ·) | _ => none)
      | _ => none)
    | _ => none

theorem sizes_mid {σ : AMem L} : ∀ (l1 : List (Value × Value)) (kv : Value × Value) (l2 : List (Value × Value)) (n : Nat), sizes σ (l1 ++ kv :: l2) = some n →
    ∃ f fs e ro a k c m, kv.2 = .pointer (some ⟨f, 0, none⟩) ∧ σ.get f = some (.cells fs e ro) ∧ fs[2]? = some (.slice a k c) ∧ sizes σ (l1 ++ l2) = some m ∧ n = k + m
  | [], kv, l2, n, h => by
    simp only [List.nil_append, sizes] at h
    split at h
    · rename_i f hf
      split at h
      · rename_i fs e ro hg
        split at h
        · rename_i a k c hs
          obtain ⟨m, hm, rfl⟩ := Option.map_eq_some_iff.1 h
          exact ⟨f, fs, e, ro, a, k, c, m, hf, hg, hs, hm, rfl⟩
        · cases h
      · cases h
    · cases h
  | x :: l1, kv, l2, n, h => by
    simp only [List.cons_append, sizes] at h
    split at h
    · rename_i f hf
      split at h
      · rename_i fs e ro hg
        split at h
        · rename_i a k c hs
          obtain ⟨m, hm, rfl⟩ := Option.map_eq_some_iff.1 h
          obtain ⟨f', fs', e', ro', a', k', c', m', h1, h2, h3, h4, h5⟩ := sizes_mid l1 kv l2 m hm
          refine ⟨f', fs', e', ro', a', k', c', k + m', h1, h2, h3, ?_, by omega⟩
          simp only [List.cons_append, sizes, hf, hg, hs, h4, Option.map_some]
        · cases h
      · cases h
    · cases h

theorem size_body (call : Ax.Spec L) (K : Value → AMem L → Prop) (p r n : Nat) (vs : List Value) (e : TypeId) (ro : Bool) (es : List (Value × Value)) (σ : AMem L)
    (hp : σ.get p = some (.cells vs e ro)) (h6 : vs[6]? = some (.map (some r))) (hr : σ.get r = some (.map es)) (hn : sizes (σ.kill r) es = some n) (hlt : (n : Int) < 2 ^ 63)
    (hK : K (.int .i64 n) (σ.skipTo (σ.next + 1))) : aBodyX PP call plans80 Tryz.f80 code80 [.pointer (some ⟨p, 0, none⟩)] σ K := by
  refine ⟨by simp only [List.length_cons, List.length_nil]; decide +kernel, ?_⟩
  unfold code80 Tryz.f80
  simp only [Option.getD_some, Option.bind_some, Option.map_some, Option.map_none, Option.bind_none, aCode, aOps, aPlan, aStep, aWanted, aOp, valued, silent, Bool.false_eq_true, if_false, if_true, exThen, exBlock, exScope, put_some, put_none, evT, evC, evF, set_same, set_ne, Nat.reduceBEq, Nat.reduceEqDiff, aBinO, isNilWord, isNilV, isAggV, Bool.false_and, Bool.and_false, aBin, intBin, aUn, aBuiltin, aMin, aMax, aArgs, List.getD_cons_zero, List.getD_cons_succ, List.map_cons, List.map_nil, aEnd, aResults, aResult, List.mapM_cons, List.mapM_nil, List.cons_append, List.nil_append, List.append_nil, Option.pure_def, Option.bind_eq_bind, keep_mem, List.mem_cons, List.not_mem_nil, or_false, false_or, true_or, or_true, reduceIte, not_false_eq_true, forall_const, and_true, true_and, List.forall_mem_nil, reduceCtorEq, isEq, Array.toList_map, AMem.next_put, AMem.next_kill, AMem.next_set, AMem.next_skipTo, eq_self, laid_int, laid_bool, laid_string, laid_slice, laid_pointer, ag_59, ag_87, fa_62_2, fa_90_2, sz_59, sz_87, un_3, un_59, un_87, aCodeX, rangeOf, List.reverse_cons, List.reverse_nil, beq_self_eq_true, Bool.and_true, Bool.and_self, Nat.reduceBNe, aRange, aFieldAddr, aLoad, Nat.zero_add, Option.map_some, hp, h6, hr]
  refine ⟨r, es, rfl, hr, ⟨_, _, rfl⟩, fun l F σ' => σ' = (σ.skipTo (σ.next + 1)).kill r ∧ F 10 = .pointer (some ⟨σ.next, 0, none⟩) ∧ ∃ s m : Nat, F 3 = .int .i64 s ∧ sizes (σ.kill r) l = some m ∧ s + m = n, ?_, ?_, ?_⟩
  · simp only [Option.getD_some, Option.bind_some, Option.map_some, Option.map_none, Option.bind_none, aCode, aOps, aPlan, aStep, aWanted, aOp, valued, silent, Bool.false_eq_true, if_false, if_true, exThen, exBlock, exScope, put_some, put_none, evT, evC, evF, set_same, set_ne, Nat.reduceBEq, Nat.reduceEqDiff, aBinO, isNilWord, isNilV, isAggV, Bool.false_and, Bool.and_false, aBin, intBin, aUn, aBuiltin, aMin, aMax, aArgs, List.getD_cons_zero, List.getD_cons_succ, List.map_cons, List.map_nil, aEnd, aResults, aResult, List.mapM_cons, List.mapM_nil, List.cons_append, List.nil_append, List.append_nil, Option.pure_def, Option.bind_eq_bind, keep_mem, List.mem_cons, List.not_mem_nil, or_false, false_or, true_or, or_true, reduceIte, not_false_eq_true, forall_const, and_true, true_and, List.forall_mem_nil, reduceCtorEq, isEq, Array.toList_map, AMem.next_put, AMem.next_kill, AMem.next_set, AMem.next_skipTo, eq_self, laid_int, laid_bool, laid_string, laid_slice, laid_pointer, ag_59, ag_87, fa_62_2, fa_90_2, sz_59, sz_87, un_3, un_59, un_87, aFieldAddr]
    exact ⟨0, n, rfl, hn, by omega⟩
  · rintro l1 kv l2 F2 σ2 ⟨rfl, h10, s, m, h3, hm, hs⟩
    obtain ⟨f, fs, e', ro', a, k, c, m', g1, g2, g3, g4, g5⟩ := sizes_mid l1 kv l2 m hm
    have g2' : ((σ.skipTo (σ.next + 1)).kill r).get f = some (.cells fs e' ro') := g2
    have hw : IntKind.wrap .i64 ((s : Int) + (k : Int)) = ((s + k : Nat) : Int) := by
      rw [wrap_i64 (by omega) (by omega)]; omega
    simp only [Option.getD_some, Option.bind_some, Option.map_some, Option.map_none, Option.bind_none, aCode, aOps, aPlan, aStep, aWanted, aOp, valued, silent, Bool.false_eq_true, if_false, if_true, exThen, exBlock, exScope, put_some, put_none, evT, evC, evF, set_same, set_ne, Nat.reduceBEq, Nat.reduceEqDiff, aBinO, isNilWord, isNilV, isAggV, Bool.false_and, Bool.and_false, aBin, intBin, aUn, aBuiltin, aMin, aMax, aArgs, List.getD_cons_zero, List.getD_cons_succ, List.map_cons, List.map_nil, aEnd, aResults, aResult, List.mapM_cons, List.mapM_nil, List.cons_append, List.nil_append, List.append_nil, Option.pure_def, Option.bind_eq_bind, keep_mem, List.mem_cons, List.not_mem_nil, or_false, false_or, true_or, or_true, reduceIte, not_false_eq_true, forall_const, and_true, true_and, List.forall_mem_nil, reduceCtorEq, isEq, Array.toList_map, AMem.next_put, AMem.next_kill, AMem.next_set, AMem.next_skipTo, eq_self, laid_int, laid_bool, laid_string, laid_slice, laid_pointer, ag_59, ag_87, fa_62_2, fa_90_2, sz_59, sz_87, un_3, un_59, un_87, aFieldAddr, aLoad, aLen, aRound, Nat.zero_add, g1, g2', g3, h3, h10, hw, List.getElem?_toArray, List.getElem?_cons_succ, List.getElem?_cons_zero]
    exact ⟨s + k, m', rfl, g4, by omega⟩
  · rintro F2 σ2 ⟨rfl, h10, s, m, h3, hm, hs⟩ _
    simp only [sizes, Option.some.injEq] at hm
    subst hm
    simp only [Option.getD_some, Option.bind_some, Option.map_some, Option.map_none, Option.bind_none, aCode, aOps, aPlan, aStep, aWanted, aOp, valued, silent, Bool.false_eq_true, if_false, if_true, exThen, exBlock, exScope, put_some, put_none, evT, evC, evF, set_same, set_ne, Nat.reduceBEq, Nat.reduceEqDiff, aBinO, isNilWord, isNilV, isAggV, Bool.false_and, Bool.and_false, aBin, intBin, aUn, aBuiltin, aMin, aMax, aArgs, List.getD_cons_zero, List.getD_cons_succ, List.map_cons, List.map_nil, aEnd, aResults, aResult, List.mapM_cons, List.mapM_nil, List.cons_append, List.nil_append, List.append_nil, Option.pure_def, Option.bind_eq_bind, keep_mem, List.mem_cons, List.not_mem_nil, or_false, false_or, true_or, or_true, reduceIte, not_false_eq_true, forall_const, and_true, true_and, List.forall_mem_nil, reduceCtorEq, isEq, Array.toList_map, AMem.next_put, AMem.next_kill, AMem.next_set, AMem.next_skipTo, eq_self, laid_int, laid_bool, laid_string, laid_slice, laid_pointer, ag_59, ag_87, fa_62_2, fa_90_2, sz_59, sz_87, un_3, un_59, un_87, h3]
    have e1 : s = n := by omega
    subst e1
    have e2 : ((σ.skipTo (σ.next + 1)).kill r).put r (σ.next + 1) (.map es) = σ.skipTo (σ.next + 1) := by
      refine amem_ext rfl fun x => ?_
      rw [AMem.get_put]
      split
      · rename_i h; subst h; exact hr.symm
      · rename_i h; rw [AMem.get_kill, if_neg h]
    rw [e2]; exact hK

/-- As the runner has it. -/
def natSize (args : List Value) (m : CMem L) : Option (Value × CMem L) :=
  match args with
  | [.pointer (some ⟨p, 0, none⟩)] => match m.tr.get p with
    | some (.cells vs _ _) => match (vs[6]? : Option Value) with
      | some (Value.map (some r)) => match m.tr.get r with
        | some (.map es) => match sizes (m.abs.kill r) es with
          | some n => match Nat.blt n 4611686018427387904 with
            | true => forceN n fun n => forceN (m.next + 1) fun nx => some (.int .i64 n, ⟨nx, m.tr⟩)
            | false => none
          | none => none
        | _ => none
      | _ => none
    | _ => none
  | _ => none

theorem size_law (call : Ax.Spec L) (args : List Value) (σ : AMem L) (K : Value → AMem L → Prop) (h : runSpec (fun _ args m => natSize args m) 0 args σ K) :
    aBodyX PP call plans80 Tryz.f80 code80 args σ K := by
  obtain ⟨m, v, m', rfl, h, hK⟩ := h
  simp only at h
  unfold natSize at h
  split at h
  · rename_i p
    split at h
    · rename_i vs e ro hp
      split at h
      · rename_i r h6
        split at h
        · rename_i es hr
          split at h
          · rename_i n hn
            split at h
            · rename_i hb
              rw [forceN_eq, forceN_eq] at h
              cases h
              have hb' : n < 4611686018427387904 := by rw [Nat.blt_eq] at hb; exact hb
              exact size_body call K p r n vs e ro es m.abs hp h6 hr hn (by omega) hK
            · cases h
          · cases h
        · cases h
      · cases h
    · cases h
  · cases h
end Go.Proofs
