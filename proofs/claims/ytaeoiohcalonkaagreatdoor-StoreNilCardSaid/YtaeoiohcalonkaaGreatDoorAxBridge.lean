/- From runs to what a row asks of a call. -/
import Derived.Test.YtaeoiohcalonkaaGreatDoorAxBlock
import Derived.ProofKit
import Derived.OpenShut
import Derived.Deep.DeepHandedRow
import Derived.LaidMore
set_option linter.unusedVariables false
set_option linter.unusedSimpArgs false
namespace Go.Ax
open Go Go.RowKit Go.ChangeShapes Go.WideShapes Go.ChangeAt
variable {L : Type} {P : Program} {call : Spec L}

/-- A run that starts with nothing: the call answers so in every world, and leaves all that was there. -/
theorem Sim.below (hrun : Sim (physRel P L) call) {f : FuncId} {fn : Func} {args : List Value} {b : Bool} (hf : P.funcs[f]? = some fn) (hbody : fn.body.isSome = true) (hname : (fn.name == "runtime.NumGoroutine") = false)
    (h : call f args ⟨0, fun _ => none⟩ (fun u _ => u = .bool b)) {args' : Array Value} (hargs : LRel (fun _ => none) args args'.toList) (w : World) :
    Calls P f args' w fun e w' => e = .returned (.bool b) ∧ Below w.heap.size w w' := by
  have hm0 : MRel P ⟨fun c => w.heap[c]?, envOf w⟩ (fun _ => none) (⟨0, fun _ => none⟩ : AMem L) w :=
    { live := fun b o ho => (by cases ho), inj := fun b c o o' l l' hb => (by cases hb), fresh := fun b _ => ⟨rfl, rfl⟩, old := fun b l hl => (by cases hl), kept := fun c o hc => hc, apart := fun c o b o' l hc hb => (by cases hb), env := rfl }
  rcases hrun f args _ _ h _ _ w args' hargs hm0 with ⟨hc, _⟩ | ⟨v, w', hr, _⟩
  · refine hc.mono fun e w' he => ?_
    obtain ⟨u, v', ρ', σ1, k1, rfl, k2, k3, k4, k5, k6, k7⟩ := he
    have k7' : MRel P ⟨fun c => w.heap[c]?, envOf w⟩ ρ' σ1 w' := k7
    have hk : ∀ c, c < w.heap.size → w'.heap[c]? = w.heap[c]? := fun c hc => by
      have h1 : w.heap[c]? = some w.heap[c] := Array.getElem?_eq_getElem hc
      rw [k7'.kept c _ h1, h1]
    have hsz : w.heap.size ≤ w'.heap.size := by
      rcases Nat.lt_or_ge w'.heap.size w.heap.size with hlt | hge
      · have := hk w'.heap.size hlt
        rw [Array.getElem?_eq_none (Nat.le_refl _), Array.getElem?_eq_getElem hlt] at this
        cases this
      · exact hge
    have hv := k6.bool_inv
    subst hv
    have he := k7'.env
    simp only [envOf, Prod.mk.injEq] at he
    exact ⟨k1, he.1.1, he.2, he.1.2, hsz, hk⟩
  · have hne : ¬ fn.name = "runtime.NumGoroutine" := by simpa using hname
    have hnone : ¬ fn.body = none := by intro hb; rw [hb] at hbody; cases hbody
    simp [callFunc, run_program, hf, hne, hnone] at hr

/-- All arguments read behind the call as they read before. -/
theorem trodAll_below {H : Type} {enc : TypeId × Value → H} {W W' : World} (hl : laidOutB P = true) (hb : Below W.heap.size W W') : ∀ (ts : List TypeId) (vs : List Value) (ds : List (DataW H)) (ps : List MemPlace),
    (ts.all fun t => P.readableRec t && decide (t < P.types.size)) = true → DataW.TrodAll enc P W 0 (fun _ => true) true ts vs ds ps → (∀ x ∈ ps, x.block < W.heap.size) →
    DataW.TrodAll enc P W' 0 (fun b => decide (b < W.heap.size)) true ts vs ds ps
  | [], vs, ds, ps, _, h, _ => by
    obtain ⟨rfl, rfl, rfl⟩ := trodAll_nil h
    exact trodAll_mk0
  | t :: ts, vs, ds, ps, hr, h, hlt => by
    obtain ⟨v0, vs0, d0, ds0, p0, q0, rfl, rfl, rfl, h0, r0⟩ := trodAll_cons h
    simp only [List.all_cons, Bool.and_eq_true, decide_eq_true_eq] at hr
    exact trodAll_cons_mk (Below.trod hl hr.1.1 hr.1.2 h0 hb fun x hx => hlt x (by simp [hx])) (trodAll_below hl hb ts vs0 ds0 q0 (by simpa using hr.2) r0 fun x hx => hlt x (by simp [hx]))

/-- What a law's row asks behind the call: it answers true, and nothing has turned. -/
theorem post_true {H : Type} {enc : TypeId × Value → H} {f : Func} {s : ChangeSpec} {tb : TypeId} {W W' : World} {args : Array Value} {ds gs : List (DataW H)} {before : List MemPlace} (hl : laidOutB P = true) (hvars : s.vars = [])
    (hW : DataW.Whole enc P f.params.toList s.vars false W args.toList ds gs before) (hts : (f.params.toList.all fun t => P.readableRec t && decide (t < P.types.size)) = true)
    (hres : f.resultTypes.toList = [tb]) (htb : P.underlying tb = some .bool) (hfn : s.fn H (ds ++ gs) = { results := [.lit (.bool true)], args := ds }) (hb : Below W.heap.size W W') :
    s.post enc P f false true false false W args (.bool true) W' := by
  have hW' := hW
  obtain ⟨p, q, hA, hV, hpq, hfz, hnd⟩ := hW
  rw [hvars] at hV
  obtain ⟨rfl, rfl⟩ := trodVars_none hV
  rw [List.append_nil] at hpq
  subst hpq
  have hsz : f.resultTypes.size = 1 := by
    have := congrArg List.length hres; simpa using this
  refine ⟨ds, [], before, [], before, [], hW', ?_, ?_, ?_, hb.frame _, fun h => by cases h⟩
  · rw [hfn, hres, hsz]
    exact trodAll_cons_mk (shut_bool htb _) trodAll_mk0
  · rw [hfn]
    exact trodAll_below hl hb _ _ _ _ hts hA fun x hx => hW'.lt x hx
  · rw [hfn, hvars]; rfl

theorem undefs {vs : List Value} : ∀ {us : List Value}, us.length = vs.length → (∀ u ∈ us, u = undef) → LRel (fun _ => none) us vs := fun hl hu =>
  ⟨hl, fun i x y hx hy => by rw [hu x (List.mem_of_getElem? hx)]; exact .any _⟩

end Go.Ax
