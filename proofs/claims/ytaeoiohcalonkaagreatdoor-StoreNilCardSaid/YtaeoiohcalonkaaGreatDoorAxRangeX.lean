/- Functions with a round over a map in their outermost row. -/
import Derived.Test.YtaeoiohcalonkaaGreatDoorAxRange
set_option linter.unusedVariables false
set_option linter.unusedSimpArgs false
namespace Go.Ax
open Go
variable {L : Type} {P : Program} {rel : Rel P L} {call : Spec L}

def rangeOf : Code → Option RangeParts
  | .seq (.region r0 ops false) (.block b0 (.loop (.seq (.region r1 ops1 false) (.seq (.cond (.tmp ok') .skip (.exit e)) (.block b1 (.seq (.region r4 ops4 false) body)))))) =>
    match ops.toList.reverse, ops1.toList, ops4.toList with
    | rop :: pre, [nop, xop], eop :: ops4 =>
      match rop.op, rop.dst, rop.guard, nop.op, nop.dst, nop.guard, xop.op, xop.dst, xop.guard, eop.op, eop.dst, eop.guard with
      | .range rt rx, some it, none, .next (.tmp i1) false, some nx, none, .extract (.tmp n1) 0, some ok, none, .entry (.tmp i2), some en, none =>
        if i1 == it && i2 == it && n1 == nx && ok' == ok && e == b0 && nx != it && ok != it && en != it && ok != nx then
          some { r0, pre := pre.reverse, rop, rt, rx, it, b0, r1, nop, nx, xop, ok, b1, r4, eop, en, ops4, body }
        else none
      | _, _, _, _, _, _, _, _, _, _, _, _ => none
    | _, _, _ => none
  | _ => none

theorem rangeOf_spec {c : Code} {p : RangeParts} (h : rangeOf c = some p) : c = p.code ∧ p.Fit := by
  unfold rangeOf at h
  split at h
  · rename_i r0 ops b0 r1 ops1 ok' e b1 r4 ops4 body
    split at h
    · rename_i rop pre nop xop eop ops4' h1 h2 h3
      split at h
      · rename_i rt rx it i1 nx n1 ok i2 en a1 a2 a3 a4 a5 a6 a7 a8 a9 a10 a11 a12
        split at h
        · rename_i hc
          simp only [Bool.and_eq_true, beq_iff_eq, bne_iff_ne, ne_eq] at hc
          obtain ⟨⟨⟨⟨⟨⟨⟨⟨rfl, rfl⟩, rfl⟩, rfl⟩, rfl⟩, c1⟩, c2⟩, c3⟩, c4⟩ := hc
          cases h
          have e1 : ops = (pre.reverse ++ [rop]).toArray := by
            apply Array.toList_inj.1
            have := congrArg List.reverse h1
            simpa using this
          have e2 : ops1 = #[nop, xop] := by apply Array.toList_inj.1; simpa using h2
          have e3 : ops4 = (eop :: ops4').toArray := by apply Array.toList_inj.1; simpa using h3
          refine ⟨?_, ⟨a1, a2, a3⟩, ⟨a4, a5, a6⟩, ⟨a7, a8, a9⟩, ⟨a10, a11, a12⟩, c1, c2, c3, c4⟩
          simp only [RangeParts.code, RangeParts.loop, ← e1, ← e2, ← e3]
        · cases h
      · cases h
    · cases h
  · cases h

def aCodeX (P : Program) (call : Spec L) (plans : Plans) : Code → (Exit → Fr → AMem L → Prop) → Fr → AMem L → Prop
  | .seq a b, Q, F, σ => match rangeOf a with
    | some p => aRange P call plans p (aCodeX P call plans b Q) F σ
    | none => aCode P call plans a (exThen (aCodeX P call plans b Q) Q) F σ
  | c, Q, F, σ => aCode P call plans c Q F σ

def codeOkX (ok : PlanOk) (plans : Plans) (n : Nat) : Code → Bool
  | .seq a b => (match rangeOf a with
    | some p => p.pre.all (okOper n) && okOperand p.rx && p.ops4.all (okOper n) && codeOk ok plans n p.body && decide (p.it < n) && decide (p.nx < n) && decide (p.ok < n) && decide (p.en < n)
    | none => codeOk ok plans n a) && codeOkX ok plans n b
  | c => codeOk ok plans n c

theorem codeX_sound (hsim : Sim rel call) {ok : PlanOk} (hdraw : DrawSound rel call ok) {plans : Plans} : ∀ (c : Code) (Q : Exit → Fr → AMem L → Prop) (κ : Kappa) (ρ : Rho) (F : Fr) (σ : AMem L) (a : Act) (w : World),
    codeOkX ok plans a.tmps.size c = true → aCodeX P call plans c Q F σ → FRel ρ F a → rel.R κ ρ σ w → c.wp P (Ends rel κ ρ σ a Q) a w := by
  intro c
  induction c with
  | seq x y _ ihy =>
    intro Q κ ρ F σ a w hok h hF hR
    simp only [codeOkX, Bool.and_eq_true] at hok
    simp only [aCodeX] at h
    have fin : ∀ e a' w', Ends rel κ ρ σ a (exThen (aCodeX P call plans y Q) Q) e a' w' → Exit.then (y.wp P (Ends rel κ ρ σ a Q)) (Ends rel κ ρ σ a Q) e a' w' := by
      intro e a' w' he
      cases e with
      | normal =>
        obtain ⟨F', σ', ρ', k1, k2, k3, k9, k4, k5, k6, k7, k8⟩ := he
        have := ihy Q κ ρ' F' σ' a' w' (by rw [k6]; exact hok.2) k1 k5 k8
        exact wp_mono this fun e a'' w'' he => he.mono k2 k3 k9 k4 k6 k7 fun _ _ h => h
      | exit id => exact he.mono ρ.le_refl (fun _ _ => rfl) (fun _ _ h => h) (Nat.le_refl _) rfl rfl fun _ _ h => h
      | goto l => exact he.mono ρ.le_refl (fun _ _ => rfl) (fun _ _ h => h) (Nat.le_refl _) rfl rfl fun _ _ h => h
      | ret => exact he.mono ρ.le_refl (fun _ _ => rfl) (fun _ _ h => h) (Nat.le_refl _) rfl rfl fun _ _ h => h
      | panic ch => exact he.mono ρ.le_refl (fun _ _ => rfl) (fun _ _ h => h) (Nat.le_refl _) rfl rfl fun _ _ h => h
      | outgrown => exact he.mono ρ.le_refl (fun _ _ => rfl) (fun _ _ h => h) (Nat.le_refl _) rfl rfl fun _ _ h => h
    split at h
    · rename_i p hp
      rw [hp] at hok
      simp only [Bool.and_eq_true, List.all_eq_true, decide_eq_true_eq] at hok
      obtain ⟨⟨⟨⟨⟨⟨⟨⟨o1, o2⟩, o3⟩, o4⟩, o5⟩, o6⟩, o7⟩, o8⟩, _⟩ := hok
      obtain ⟨rfl, hfit⟩ := rangeOf_spec hp
      refine wp_seq (wp_mono (range_sound hsim hdraw hfit o1 o2 o3 o4 o5 o6 o7 o8 h hF hR (Q := exThen (aCodeX P call plans y Q) Q) fun _ _ h => h) fin)
    · rename_i hp
      rw [hp] at hok
      exact wp_seq (wp_mono (code_sound hsim hdraw x _ κ ρ F σ a w hok.1 h hF hR) fin)
  | _ => intro Q κ ρ F σ a w hok h hF hR; exact code_sound hsim hdraw _ Q κ ρ F σ a w hok h hF hR

/-- A body run on arguments. -/
def aBodyX (P : Program) (call : Spec L) (plans : Plans) (fn : Func) (c : Code) : Law L := fun args σ K =>
  args.length ≤ fn.ntmps ∧ aCodeX P call plans c (aEnd P fn.results.toList K) (aArgs args) σ

structure FnOkX (P : Program) (plans : Plans) (f : FuncId) (fn : Func) (c : Code) : Prop where
  func : P.funcs[f]? = some fn
  body : fn.body = some c
  code : codeOkX (planOk P) plans fn.ntmps c = true
  name : (fn.name == "runtime.NumGoroutine") = false

/-- A function whose body does what its law tells. -/
theorem Sim.addX (hsim : Sim rel call) (hm : P.follows .mixedOrders = true) {plans : Plans} {f : FuncId} {fn : Func} {c : Code} (hf : FnOkX P plans f fn c) {law : Law L}
    (hb : ∀ args σ K, law args σ K → aBodyX P call plans fn c args σ K) : Sim rel (fun g args σ K => call g args σ K ∨ (g = f ∧ law args σ K)) := by
  intro g args σ K h κ ρ w args' hargs hR
  rcases h with h | ⟨rfl, h⟩
  · exact hsim g args σ K h κ ρ w args' hargs hR
  refine .inl ⟨?_, fn, hf.func, by rw [hf.body]; rfl, hf.name⟩
  obtain ⟨hlen, hcode⟩ := hb args σ K h
  have hlen' : args'.size = args.length := by rw [hargs.1]; simp
  have hsz : (args' ++ Array.replicate (fn.ntmps - args'.size) undef).size = fn.ntmps := by simp; omega
  refine calls_of_wp hf.func hf.body ?_
  have hF : FRel ρ (aArgs args) { tmps := args' ++ Array.replicate (fn.ntmps - args'.size) undef, defers := [] } := by
    intro i
    simp only [aArgs]
    rw [Array.getD_eq_getD_getElem?, Array.getElem?_append, List.getD_eq_getElem?_getD]
    by_cases hi : i < args'.size
    · rw [if_pos hi]
      have h1 : args[i]? = some args[i] := List.getElem?_eq_getElem (by omega)
      have h2 : args'[i]? = some args'[i] := Array.getElem?_eq_getElem hi
      rw [h1, h2]
      exact hargs.2 i _ _ h1 (by simp)
    · rw [if_neg hi, List.getElem?_eq_none (by omega)]
      exact .any _
  refine wp_mono (codeX_sound hsim (draw_sound hsim hm) c _ κ ρ _ σ _ w (by rw [hsz]; exact hf.code) hcode hF hR) fun e a w' he => ?_
  obtain ⟨F', σ', ρ', k1, k2, k3, k9, k4, k5, k6, k7, k8⟩ := he
  obtain ⟨κ', _, hmr, _⟩ := rel.opens k8
  have fin : (∃ v, aResults P fn.results.toList F' σ' = some v ∧ K v σ') → a.defers = [] ∧ ∃ v, (results fn a.tmps).run P w' = .ok v w' ∧ CallEnd rel κ ρ σ K (.returned v) w' := by
    rintro ⟨v, hv, hK⟩
    obtain ⟨v', h1, h2⟩ := results_sound hmr k5 hv
    exact ⟨k7, v', h1, v, v', ρ', σ', rfl, hK, k2, k3, k9, k4, h2, k8⟩
  cases e with
  | normal => simp only [aEnd] at k1; exact fin (by split at k1; exact ⟨_, by assumption, k1⟩; exact k1.elim)
  | ret => simp only [aEnd] at k1; exact fin (by split at k1; exact ⟨_, by assumption, k1⟩; exact k1.elim)
  | exit id => exact k1.elim
  | goto l => exact k1.elim
  | panic ch => exact k1.elim
  | outgrown => exact k1.elim

end Go.Ax
