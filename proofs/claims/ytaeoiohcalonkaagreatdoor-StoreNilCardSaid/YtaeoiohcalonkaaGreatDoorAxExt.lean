/- Functions without a body, that the model answers at once. -/
import Derived.Test.YtaeoiohcalonkaaGreatDoorAxConc3
set_option linter.unusedVariables false
set_option linter.unusedSimpArgs false
namespace Go.Ax
open Go
variable {L : Type} {P : Program} {rel : Rel P L}

/-- The facts of such a function. -/
structure ExtOk (P : Program) (f : FuncId) (fn : Func) (e : Array Value → Sem Value) : Prop where
  func : P.funcs[f]? = some fn
  body : fn.body.isNone = true
  name : (fn.name == "runtime.NumGoroutine") = false
  next : (Extern.findNext fn).isNone = true
  find : Extern.find fn = some e

theorem ExtOk.run {f : FuncId} {fn : Func} {e : Array Value → Sem Value} (h : ExtOk P f fn e) {args : Array Value} {v : Value} {w : World} (he : (e args).run P w = .ok v w) : (callFunc f args).run P w = .ok (.value v) w := by
  have h1 : ¬ fn.name = "runtime.NumGoroutine" := by simpa using h.name
  have h2 : fn.body = none := by have := h.body; cases hb : fn.body with | none => rfl | some c => rw [hb] at this; cases this
  have h3 : Extern.findNext fn = none := by have := h.next; cases hb : Extern.findNext fn with | none => rfl | some c => rw [hb] at this; cases this
  simp [callFunc, run_program, h.func, h1, h2, h3, h.find, he]

/-- It may be called. -/
theorem Sim.ext {call : Spec L} (hsim : Sim rel call) {f : FuncId} {fn : Func} {e : Array Value → Sem Value} (h : ExtOk P f fn e) {law : Law L}
    (hl : ∀ args σ K, law args σ K → ∃ v, K v σ ∧ ∀ (ρ : Rho) (args' : Array Value), LRel ρ args args'.toList → ∃ v', VRel ρ v v' ∧ ∀ w, (e args').run P w = .ok v' w) :
    Sim rel (fun g args σ K => call g args σ K ∨ (g = f ∧ law args σ K)) := by
  intro g args σ K hc κ ρ w args' hargs hR
  rcases hc with hc | ⟨rfl, hc⟩
  · exact hsim g args σ K hc κ ρ w args' hargs hR
  · obtain ⟨v, hK, hv⟩ := hl args σ K hc
    obtain ⟨v', h1, h2⟩ := hv ρ args' hargs
    exact .inr ⟨v', w, h.run (h2 w), v, v', ρ, σ, rfl, hK, ρ.le_refl, fun _ _ => rfl, fun _ _ h => h, Nat.le_refl _, h1, hR⟩

end Go.Ax
