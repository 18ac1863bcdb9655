/- Functions: what the evaluator says of a body holds of its calls. -/
import Derived.Test.YtaeoiohcalonkaaGreatDoorAxPlan
import Derived.Tactics
set_option linter.unusedVariables false
set_option linter.unusedSimpArgs false
namespace Go.Ax
open Go
variable {L : Type} {P : Program} {rel : Rel P L} {call : Spec L}

def aResult (P : Program) (F : Fr) (σ : AMem L) : ResultVar → Option Value
  | .tmp t => some (F t)
  | .cell a t => match F a with
    | .pointer (some ⟨c, off, none⟩) => aLoad P t c off σ
    | _ => none
def aResults (P : Program) (rs : List ResultVar) (F : Fr) (σ : AMem L) : Option Value :=
  match rs with
  | [r] => aResult P F σ r
  | rs => (rs.mapM (aResult P F σ)).map fun vs => .tuple vs.toArray

/-- What a call is told to do. -/
abbrev Law (L : Type) := List Value → AMem L → (Value → AMem L → Prop) → Prop

def aEnd (P : Program) (rs : List ResultVar) (K : Value → AMem L → Prop) : Exit → Fr → AMem L → Prop
  | .normal, F, σ | .ret, F, σ => match aResults P rs F σ with
    | some v => K v σ
    | none => False
  | _, _, _ => False

def aArgs (args : List Value) : Fr := fun i => args.getD i undef

/-- A body run on arguments. -/
def aBody (P : Program) (call : Spec L) (plans : Plans) (fn : Func) (c : Code) : Law L := fun args σ K =>
  args.length ≤ fn.ntmps ∧ aCode P call plans c (aEnd P fn.results.toList K) (aArgs args) σ

/-- What the model does for one result. -/
def oneResult (tmps : Array Value) : ResultVar → Sem Value
  | .tmp t => pure (tmps.getD t undef)
  | .cell a t => do loadVar t (← asAddr (tmps.getD a undef))

theorem result_sound {κ : Kappa} {ρ : Rho} {σ : AMem L} {w : World} {F : Fr} {a : Act} {r : ResultVar} {v : Value} (hm : MRel P κ ρ σ w) (hF : FRel ρ F a) (h : aResult P F σ r = some v) :
    ∃ v', (oneResult a.tmps r).run P w = .ok v' w ∧ VRel ρ v v' := by
  cases r with
  | tmp t =>
    simp only [aResult, Option.some.injEq] at h; subst h
    exact ⟨a.tmps.getD t undef, by simp [oneResult], hF t⟩
  | cell d t =>
    simp only [aResult] at h
    split at h
    · rename_i c off hx
      have hv := hF d
      rw [hx] at hv
      obtain ⟨l, hl, hs, hv'⟩ := hv.ptr_inv
      obtain ⟨v', h1, h2⟩ := load_sound hm h hl
      refine ⟨v', ?_, h2⟩
      simpa [oneResult, hv', asAddr, Instr.loadAt, Instr.sureAddr] using h1
    · cases h

theorem resultsL_sound {κ : Kappa} {ρ : Rho} {σ : AMem L} {w : World} {F : Fr} {a : Act} (hm : MRel P κ ρ σ w) (hF : FRel ρ F a) : ∀ (rs : List ResultVar) (vs : List Value), rs.mapM (aResult P F σ) = some vs →
    ∃ vs', (rs.mapM (oneResult a.tmps)).run P w = .ok vs' w ∧ LRel ρ vs vs' ∧ vs.length = rs.length ∧ vs'.length = rs.length
  | [], vs, h => by
    simp only [List.mapM_nil] at h; cases h
    exact ⟨[], by simp, ⟨rfl, fun i x y hx => by simp at hx⟩, rfl, rfl⟩
  | r :: rs, vs, h => by
    simp only [List.mapM_cons] at h
    obtain ⟨v, hv, h⟩ := Option.bind_eq_some_iff.1 h
    obtain ⟨us, hu, h⟩ := Option.bind_eq_some_iff.1 h
    cases h
    obtain ⟨v', h1, h2⟩ := result_sound hm hF hv
    obtain ⟨us', h3, h4, h5, h6⟩ := resultsL_sound hm hF rs us hu
    refine ⟨v' :: us', ?_, LRel.cons h2 h4, by simp [h5], by simp [h6]⟩
    simp [List.mapM_cons, h1, h3]

theorem results_sound {fn : Func} {κ : Kappa} {ρ : Rho} {σ : AMem L} {w : World} {F : Fr} {a : Act} {v : Value} (hm : MRel P κ ρ σ w) (hF : FRel ρ F a) (h : aResults P fn.results.toList F σ = some v) :
    ∃ v', (results fn a.tmps).run P w = .ok v' w ∧ VRel ρ v v' := by
  have he : results fn a.tmps = (do
      let vs ← List.toArray <$> fn.results.toList.mapM (oneResult a.tmps)
      pure (if h : vs.size = 1 then vs[0] else .tuple vs)) := by
    unfold results
    rw [Array.mapM_eq_mapM_toList]
    rfl
  rw [he]
  unfold aResults at h
  split at h
  · rename_i r hr
    obtain ⟨v', h1, h2⟩ := result_sound hm hF h
    refine ⟨v', ?_, h2⟩
    simp [hr, List.mapM_cons, h1]
  · rename_i hne
    obtain ⟨vs, hvs, h⟩ := Option.map_eq_some_iff.1 h
    subst h
    obtain ⟨vs', h1, h2, h3, h4⟩ := resultsL_sound hm hF _ _ hvs
    refine ⟨.tuple vs'.toArray, ?_, ?_⟩
    · have hlen : vs'.length ≠ 1 := by
        rw [h4]
        intro h
        cases hl : fn.results.toList with
        | nil => rw [hl] at h; cases h
        | cons r rs =>
          cases rs with
          | nil => exact hne r hl
          | cons _ _ => rw [hl] at h; simp at h
      simp [h1, hlen]
    · exact VRel.tuple_mk (by simpa using h2)

/-- The facts of a function that do not hang on its arguments. -/
structure FnOk (P : Program) (plans : Plans) (f : FuncId) (fn : Func) (c : Code) : Prop where
  func : P.funcs[f]? = some fn
  body : fn.body = some c
  code : codeOk (planOk P) plans fn.ntmps c = true
  name : (fn.name == "runtime.NumGoroutine") = false

/-- A function whose body does what its law tells. -/
theorem Sim.add (hsim : Sim rel call) (hm : P.follows .mixedOrders = true) {plans : Plans} {f : FuncId} {fn : Func} {c : Code} (hf : FnOk P plans f fn c) {law : Law L}
    (hb : ∀ args σ K, law args σ K → aBody P call plans fn c args σ K) : Sim rel (fun g args σ K => call g args σ K ∨ (g = f ∧ law args σ K)) := by
  intro g args σ K h κ ρ w args' hargs hR
  rcases h with h | ⟨rfl, h⟩
  · exact hsim g args σ K h κ ρ w args' hargs hR
  refine .inl ⟨?_, fn, hf.func, by rw [hf.body]; rfl, hf.name⟩
  obtain ⟨hlen, hcode⟩ := hb args σ K h
  have hlen' : args'.size = args.length := by rw [hargs.1]; simp
  have hsz : (args' ++ Array.replicate (fn.ntmps - args'.size) undef).size = fn.ntmps := by simp; omega
  refine calls_of_wp hf.func hf.body ?_
  have hF : FRel ρ (aArgs args) { tmps := args' ++ Array.replicate (fn.ntmps - args'.size) undef, defers := [] } := by
    intro i
    simp only [aArgs]
    rw [Array.getD_eq_getD_getElem?, Array.getElem?_append, List.getD_eq_getElem?_getD]
    by_cases hi : i < args'.size
    · rw [if_pos hi]
      have h1 : args[i]? = some args[i] := List.getElem?_eq_getElem (by omega)
      have h2 : args'[i]? = some args'[i] := Array.getElem?_eq_getElem hi
      rw [h1, h2]
      exact hargs.2 i _ _ h1 (by simp)
    · rw [if_neg hi, List.getElem?_eq_none (by omega)]
      exact .any _
  refine wp_mono (code_sound hsim (draw_sound hsim hm) c _ κ ρ _ σ _ w (by rw [hsz]; exact hf.code) hcode hF hR) fun e a w' he => ?_
  obtain ⟨F', σ', ρ', k1, k2, k3, k9, k4, k5, k6, k7, k8⟩ := he
  obtain ⟨κ', _, hmr, _⟩ := rel.opens k8
  have fin : (∃ v, aResults P fn.results.toList F' σ' = some v ∧ K v σ') → a.defers = [] ∧ ∃ v, (results fn a.tmps).run P w' = .ok v w' ∧ CallEnd rel κ ρ σ K (.returned v) w' := by
    rintro ⟨v, hv, hK⟩
    obtain ⟨v', h1, h2⟩ := results_sound hmr k5 hv
    exact ⟨k7, v', h1, v, v', ρ', σ', rfl, hK, k2, k3, k9, k4, h2, k8⟩
  cases e with
  | normal => simp only [aEnd] at k1; exact fin (by split at k1; exact ⟨_, by assumption, k1⟩; exact k1.elim)
  | ret => simp only [aEnd] at k1; exact fin (by split at k1; exact ⟨_, by assumption, k1⟩; exact k1.elim)
  | exit id => exact k1.elim
  | goto l => exact k1.elim
  | panic ch => exact k1.elim
  | outgrown => exact k1.elim

end Go.Ax
