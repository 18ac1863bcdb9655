/- Maps. -/
import Derived.Test.YtaeoiohcalonkaaGreatDoorAxS6
import Derived.MapKept
set_option linter.unusedVariables false
set_option linter.unusedSimpArgs false
namespace Go.Ax
open Go
variable {L : Type} {P : Program} {κ : Kappa} {ρ : Rho} {σ : AMem L} {w : World}

theorem isKey_of {d : TypeDesc} {k : Value} (h : keyFits d k = true) : MapKept.IsKey d k := by
  unfold keyFits at h
  split at h <;> simp_all [MapKept.IsKey]

theorem keyEq_iff {k k' : Value} (h : keyFlat k = true) : keyEq k k' = true ↔ k = k' := by
  cases k <;> simp [keyFlat] at h <;> cases k' <;> simp [keyEq, MapKept.bytes_beq]

theorem keyFlat_of_fits {d : TypeDesc} {k : Value} (h : keyFits d k = true) : keyFlat k = true := by
  unfold keyFits at h; split at h <;> first | rfl | (cases h; done)

theorem mapGet_some {k v : Value} : ∀ {es : List (Value × Value)}, mapGet k es = some v → ∃ k', (k', v) ∈ es ∧ keyEq k k' = true
  | [], h => by cases h
  | (k', v') :: r, h => by
    unfold mapGet at h
    split at h
    · rename_i hk; cases h; exact ⟨k', .head _, hk⟩
    · obtain ⟨k2, h1, h2⟩ := mapGet_some h; exact ⟨k2, .tail _ h1, h2⟩
theorem mapGet_none {k : Value} : ∀ {es : List (Value × Value)}, mapGet k es = none → ∀ kv ∈ es, keyEq k kv.1 = false
  | [], _ => by simp
  | (k', v') :: r, h => by
    unfold mapGet at h
    split at h
    · cases h
    · rename_i hk
      intro kv hkv
      cases hkv with
      | head => simpa using hk
      | tail _ h2 => exact mapGet_none h kv h2

def others (k : Value) (es : List (Value × Value)) : List (Value × Value) := es.filter fun kv => !keyEq k kv.1

theorem Stamps.push {ces : Array MapEntry} {clock : Nat} {k v : Value} (h : Stamps ces clock) : Stamps (ces.push { key := k, val := v, born := clock }) (clock + 1) := by
  refine ⟨fun x hx => ?_, ?_⟩
  · simp only [Array.toList_push, List.mem_append, List.mem_singleton] at hx
    rcases hx with hx | rfl
    · exact Nat.lt_succ_of_lt (h.1 x hx)
    · exact Nat.lt_succ_self _
  · simp only [Array.toList_push, List.map_append, List.map_cons, List.map_nil]
    rw [List.nodup_append]
    refine ⟨h.2, by simp, fun a ha b hb => ?_⟩
    simp only [List.mem_singleton] at hb
    obtain ⟨x, hx, rfl⟩ := List.mem_map.1 ha
    have := h.1 x hx
    omega
theorem Stamps.modify {ces : Array MapEntry} {clock i : Nat} {k v : Value} (h : Stamps ces clock) : Stamps (ces.modify i fun e => { e with key := k, val := v }) clock := by
  have hb : (ces.modify i fun e => { e with key := k, val := v }).toList.map (·.born) = ces.toList.map (·.born) := by
    apply List.ext_getElem?
    intro j
    simp only [List.getElem?_map, Array.getElem?_toList, Array.getElem?_modify]
    split
    · cases ces[j]? <;> rfl
    · rfl
  refine ⟨fun x hx => ?_, by rw [hb]; exact h.2⟩
  have : x.born ∈ ces.toList.map (·.born) := by rw [← hb]; exact List.mem_map.2 ⟨x, hx, rfl⟩
  obtain ⟨y, hy, e⟩ := List.mem_map.1 this
  rw [← e]; exact h.1 y hy
theorem Stamps.erase {ces ces' : Array MapEntry} {clock i : Nat} (h : Stamps ces clock) (he : ces'.toList = ces.toList.eraseIdx i) : Stamps ces' clock := by
  have hs : (ces.toList.eraseIdx i).Sublist ces.toList := List.eraseIdx_sublist ..
  exact ⟨fun x hx => h.1 x (hs.subset (he ▸ hx)), by rw [he]; exact (hs.map _).nodup h.2⟩

theorem mapSet_perm {k v : Value} (hk : keyFlat k = true) : ∀ {es : List (Value × Value)}, (es.map (·.1)).Nodup → (mapSet k v es).Perm ((k, v) :: others k es)
  | [], _ => by simp [mapSet, others]
  | (k', v') :: r, hn => by
    simp only [List.map_cons, List.nodup_cons] at hn
    unfold mapSet
    split
    · rename_i h
      have := (keyEq_iff hk).1 h; subst this
      have hr : others k r = r := by
        unfold others
        rw [List.filter_eq_self]
        intro kv hkv
        cases he : keyEq k kv.1 with
        | false => rfl
        | true => exact absurd (List.mem_map_of_mem (f := (·.1)) hkv) (by rw [(keyEq_iff hk).1 he] at hn; exact hn.1)
      have : others k ((k, v') :: r) = r := by
        have h2 : keyEq k k = true := h
        simp only [others, List.filter_cons, h2]; simpa [others] using hr
      rw [this]
    · rename_i h
      have : others k ((k', v') :: r) = (k', v') :: others k r := by
        simp only [others, List.filter_cons]; rw [if_pos (by simpa using h)]
      rw [this]
      exact ((mapSet_perm hk hn.2).cons _).trans (List.Perm.swap _ _ _)

theorem mapDel_eq {k : Value} (hk : keyFlat k = true) : ∀ {es : List (Value × Value)}, (es.map (·.1)).Nodup → mapDel k es = others k es
  | [], _ => rfl
  | (k', v') :: r, hn => by
    simp only [List.map_cons, List.nodup_cons] at hn
    unfold mapDel
    split
    · rename_i h
      have := (keyEq_iff hk).1 h; subst this
      symm
      have h2 : keyEq k k = true := h
      simp only [others, List.filter_cons, h2]
      simp only [Bool.not_true, Bool.false_eq_true, if_false]
      rw [List.filter_eq_self]
      intro kv hkv
      cases he : keyEq k kv.1 with
      | false => rfl
      | true => exact absurd (List.mem_map_of_mem (f := (·.1)) hkv) (by rw [(keyEq_iff hk).1 he] at hn; exact hn.1)
    · rename_i h
      simp only [others, List.filter_cons]
      rw [if_pos (by simpa using h), mapDel_eq hk hn.2]; rfl

theorem others_perm {k : Value} {a b : List (Value × Value)} (h : a.Perm b) : (others k a).Perm (others k b) := h.filter _

theorem mapSet_congr {k v : Value} (hk : keyFlat k = true) {a b : List (Value × Value)} (h : a.Perm b) (hn : (b.map (·.1)).Nodup) : (mapSet k v a).Perm (mapSet k v b) :=
  (mapSet_perm hk ((h.map _).nodup_iff.2 hn)).trans (((others_perm h).cons _).trans (mapSet_perm hk hn).symm)

theorem mapSet_at {k v u : Value} (hk : keyFlat k = true) : ∀ {es : List (Value × Value)} {i : Nat}, (es.map (·.1)).Nodup → es[i]? = some (k, u) → mapSet k v es = es.set i (k, v)
  | [], i, _, h => by simp at h
  | (k', v') :: r, i, hn, h => by
    simp only [List.map_cons, List.nodup_cons] at hn
    cases i with
    | zero =>
      simp only [List.getElem?_cons_zero, Option.some.injEq, Prod.mk.injEq] at h
      obtain ⟨rfl, rfl⟩ := h
      rw [mapSet, if_pos ((keyEq_iff hk).2 rfl)]; rfl
    | succ i =>
      simp only [List.getElem?_cons_succ] at h
      have hne : ¬ keyEq k k' = true := fun e => by
        have := (keyEq_iff hk).1 e; subst this
        exact hn.1 (List.mem_map_of_mem (f := (·.1)) (List.mem_of_getElem? h))
      rw [mapSet, if_neg hne, mapSet_at hk hn.2 h]; rfl

theorem mapSet_new {k v : Value} : ∀ {es : List (Value × Value)}, (∀ kv ∈ es, keyEq k kv.1 = false) → mapSet k v es = es ++ [(k, v)]
  | [], _ => rfl
  | (k', v') :: r, h => by
    rw [mapSet, if_neg (by rw [h _ (.head _)]; simp), mapSet_new fun kv hkv => h kv (.tail _ hkv)]; rfl

theorem mapDel_at {k u : Value} (hk : keyFlat k = true) : ∀ {es : List (Value × Value)} {i : Nat}, (es.map (·.1)).Nodup → es[i]? = some (k, u) → mapDel k es = es.eraseIdx i
  | [], i, _, h => by simp at h
  | (k', v') :: r, i, hn, h => by
    simp only [List.map_cons, List.nodup_cons] at hn
    cases i with
    | zero =>
      simp only [List.getElem?_cons_zero, Option.some.injEq, Prod.mk.injEq] at h
      obtain ⟨rfl, rfl⟩ := h
      rw [mapDel, if_pos ((keyEq_iff hk).2 rfl)]; rfl
    | succ i =>
      simp only [List.getElem?_cons_succ] at h
      have hne : ¬ keyEq k k' = true := fun e => by
        have := (keyEq_iff hk).1 e; subst this
        exact hn.1 (List.mem_map_of_mem (f := (·.1)) (List.mem_of_getElem? h))
      rw [mapDel, if_neg hne, mapDel_at hk hn.2 h]; rfl
theorem mapDel_none {k : Value} : ∀ {es : List (Value × Value)}, (∀ kv ∈ es, keyEq k kv.1 = false) → mapDel k es = es
  | [], _ => rfl
  | (k', v') :: r, h => by
    rw [mapDel, if_neg (by rw [h _ (.head _)]; simp), mapDel_none fun kv hkv => h kv (.tail _ hkv)]

/-- The model's entries, beside the abstract ones. -/
structure MapIs (ρ : Rho) (es' : List (Value × Value)) (ces : Array MapEntry) : Prop where
  len : es'.length = ces.size
  at_ : ∀ (i : Nat) (kv : Value × Value) (e : MapEntry), es'[i]? = some kv → ces[i]? = some e → e.key = kv.1 ∧ VRel ρ kv.2 e.val

theorem mapOf_spec {t k e : TypeId} (h : mapOf P t = some (k, e)) : P.underlying t = some (.map k e) := by
  unfold mapOf at h; split at h <;> simp at h; obtain ⟨rfl, rfl⟩ := h; assumption

/-- Where a key stands. -/
theorem find_sound {d : TypeDesc} {k : Value} {es es' : List (Value × Value)} {ces : Array MapEntry} (hk : keyFits d k = true) (hall : ∀ kv ∈ es, keyFits d kv.1 = true) (hp : es'.Perm es) (hn : (es.map (·.1)).Nodup) (hi : MapIs ρ es' ces) :
    (mapGet k es = none ∧ Instr.findNow d k ces.toList 0 = some none ∧ (∀ kv ∈ es', keyEq k kv.1 = false)) ∨
      (∃ v i e, mapGet k es = some v ∧ Instr.findNow d k ces.toList 0 = some (some (i, e.val)) ∧ ces[i]? = some e ∧ e.key = k ∧ es'[i]? = some (k, v) ∧ VRel ρ v e.val) := by
  have hkf := keyFlat_of_fits hk
  have hn' : (es'.map (·.1)).Nodup := (hp.map _).nodup_iff.2 hn
  have hkeys : ∀ x ∈ ces.toList, MapKept.IsKey d x.key := by
    intro x hx
    obtain ⟨i, hi1, hi2⟩ := List.getElem_of_mem hx
    have hlt : i < ces.size := by simpa using hi1
    have hlt' : i < es'.length := by rw [hi.len]; exact hlt
    have := hi.at_ i es'[i] ces[i] (List.getElem?_eq_getElem hlt') (Array.getElem?_eq_getElem hlt)
    have hx' : x = ces[i] := by rw [← hi2]; simp
    rw [hx', this.1]
    exact isKey_of (hall _ (hp.mem_iff.1 (List.getElem_mem hlt')))
  rcases MapKept.findNow_spec (isKey_of hk) ces.toList 0 hkeys with ⟨h1, h2⟩ | ⟨j, e, h1, h2, h3⟩
  · left
    have hno : ∀ kv ∈ es', keyEq k kv.1 = false := by
      intro kv hkv
      obtain ⟨i, hi1, hi2⟩ := List.getElem_of_mem hkv
      have hlt : i < ces.size := by rw [← hi.len]; exact hi1
      have := hi.at_ i kv ces[i] (by rw [List.getElem?_eq_getElem hi1, hi2]) (Array.getElem?_eq_getElem hlt)
      have hne := h2 ces[i] (by simp)
      cases he : keyEq k kv.1 with
      | false => rfl
      | true => exact absurd (this.1.trans ((keyEq_iff hkf).1 he).symm) hne
    refine ⟨?_, h1, hno⟩
    cases hg : mapGet k es with
    | none => rfl
    | some v =>
      obtain ⟨k', hm1, hm2⟩ := mapGet_some hg
      rw [hno _ (hp.mem_iff.2 hm1)] at hm2; cases hm2
  · right
    have hc : ces[j]? = some e := by simpa using h2
    have hlt : j < ces.size := (Array.getElem?_eq_some_iff.1 hc).1
    have hlt' : j < es'.length := by rw [hi.len]; exact hlt
    have hat := hi.at_ j es'[j] e (List.getElem?_eq_getElem hlt') hc
    have hkey : es'[j].1 = k := hat.1.symm.trans h3
    have hmem : es'[j] ∈ es := hp.mem_iff.1 (List.getElem_mem hlt')
    cases hg : mapGet k es with
    | none =>
      have := mapGet_none hg _ hmem
      rw [(keyEq_iff hkf).2 hkey.symm] at this; cases this
    | some v =>
      obtain ⟨k', hm1, hm2⟩ := mapGet_some hg
      have := (keyEq_iff hkf).1 hm2; subst this
      have hv : es'[j] = (k, v) := by
        have h4 : (k, v) ∈ es' := hp.mem_iff.2 hm1
        obtain ⟨i, hi1, hi2⟩ := List.getElem_of_mem h4
        have : i = j := by
          have h5 : (es'.map (·.1))[i]'(by simpa using hi1) = (es'.map (·.1))[j]'(by simpa using hlt') := by simp [hi2, hkey]
          rcases Nat.lt_trichotomy i j with hlt2 | h6 | hlt2
          · exact absurd h5 (List.pairwise_iff_getElem.1 hn' i j _ _ hlt2)
          · exact h6
          · exact absurd h5.symm (List.pairwise_iff_getElem.1 hn' j i _ _ hlt2)
        subst this; exact hi2
      refine ⟨v, j, e, rfl, by simpa using h1, hc, h3, by rw [List.getElem?_eq_getElem hlt', hv], ?_⟩
      have := hat.2; rw [hv] at this; exact this


theorem lookup_sound {t : TypeId} {m m' k k' v : Value} {ok : Bool} (hm : MRel P κ ρ σ w) (h : aLookup P t m k ok σ = some v) (hmv : VRel ρ m m') (hkv : VRel ρ k k') :
    ∃ v', (Instr.lookup t m' k' ok).run P w = .ok v' w ∧ VRel ρ v v' := by
  unfold aLookup at h
  split at h
  · rename_i kt et hmo
    have hu := mapOf_spec hmo
    split at h
    · rename_i d z hd hz
      split at h
      · cases h
      · rename_i hc
        simp only [Bool.or_eq_true, Bool.not_eq_true', not_or, Bool.not_eq_false] at hc
        obtain ⟨hk, hz2⟩ := hc
        have hkk : k' = k := by
          have := keyFlat_of_fits hk
          cases k <;> simp [keyFlat] at this
          · exact hkv.bool_inv
          · exact hkv.int_inv
          · exact hkv.string_inv
        subst hkk
        have hzr := plain_rel ρ hz2
        have hmiss : VRel ρ (if ok then .tuple #[z, .bool false] else z) (if ok then .tuple #[z, .bool false] else z) := by
          cases ok
          · exact hzr
          · exact VRel.tuple_mk (.cons hzr (.cons (.bool _) (.nil _)))
        split at h
        · have := hmv.nilm_inv; subst this
          simp only [Option.some.injEq] at h; subst h
          refine ⟨_, ?_, hmiss⟩
          simp only [Instr.lookup, Sem.run_bind, run_underlying hu, Result.andThen_ok, Sem.run_pure]
          rw [MapKept.run_checkKey hd (isKey_of hk) _ 9999]
          simp only [Result.andThen_ok]
          rw [MapKept.run_findKey hd (show Instr.findNow d k' (#[] : Array MapEntry).toList 0 = some none from rfl)]
          simp [run_zeroOf hz]
        · rename_i r
          obtain ⟨l, hr, rfl⟩ := hmv.map_inv
          split at h
          · rename_i es hg
            split at h
            · rename_i hall
              obtain ⟨l', hr', ces, clock, hh, hst, hn, hf, es', hp, hlen, hat⟩ := hm.live r _ hg rfl
              rw [hr] at hr'; cases hr'
              have hall' : ∀ kv ∈ es, keyFits d kv.1 = true := fun kv hkv => by simpa using List.all_eq_true.1 hall kv hkv
              have hlk : ∀ res, Instr.findNow d k' ces.toList 0 = some res → (Instr.lookup t (.map (some l.blk)) k' ok).run P w =
                  ((match res with | some (_, v) => pure (v, true) | none => do pure (← zeroValue et, false) : Sem (Value × Bool)).run P w).andThen fun p w' => .ok (if ok then .tuple #[p.1, .bool p.2] else p.1) w' := by
                intro res hres
                simp only [Instr.lookup, Sem.run_bind, run_underlying hu, Result.andThen_ok, MapKept.run_getObj_map hh, Sem.run_pure]
                rw [MapKept.run_checkKey hd (isKey_of hk) _ 9999]
                simp only [Result.andThen_ok]
                rw [MapKept.run_findKey hd hres]
                cases res with
                | none => simp [run_zeroOf hz]
                | some p => simp
              rcases find_sound (ρ := ρ) hk hall' hp hn ⟨hlen, hat⟩ with ⟨h1, h2, _⟩ | ⟨v2, i, e, h1, h2, _, _, _, h6⟩
              · rw [h1] at h
                simp only [Option.some.injEq] at h; subst h
                exact ⟨_, by rw [hlk _ h2]; simp [run_zeroOf hz], hmiss⟩
              · rw [h1] at h
                simp only [Option.some.injEq] at h; subst h
                refine ⟨if ok then .tuple #[e.val, .bool true] else e.val, by rw [hlk _ h2]; simp, ?_⟩
                cases ok
                · exact h6
                · exact VRel.tuple_mk (.cons h6 (.cons (.bool _) (.nil _)))
            · cases h
          · cases h
        · cases h
    · cases h
  · cases h

theorem keys_mapSet {k v : Value} (hk : keyFlat k = true) {es : List (Value × Value)} (hn : (es.map (·.1)).Nodup) (hf : ∀ x ∈ es.map (·.1), keyFlat x = true) : ((mapSet k v es).map (·.1)).Nodup ∧ ∀ x ∈ (mapSet k v es).map (·.1), keyFlat x = true := by
  have hp := mapSet_perm (v := v) hk hn
  have hsub : (others k es).Sublist es := List.filter_sublist
  have hko : k ∉ (others k es).map (·.1) := by
    intro hmem
    obtain ⟨kv, h1, h2⟩ := List.mem_map.1 hmem
    have := (List.mem_filter.1 h1).2
    rw [(keyEq_iff hk).2 h2.symm] at this; simp at this
  refine ⟨((hp.map (·.1)).nodup_iff).2 (List.nodup_cons.2 ⟨hko, (hsub.map _).nodup hn⟩), fun x hx => ?_⟩
  have := (hp.map (·.1)).mem_iff.1 hx
  simp only [List.map_cons, List.mem_cons] at this
  rcases this with rfl | h
  · exact hk
  · exact hf x ((hsub.map _).subset h)

theorem update_sound {t : TypeId} {m m' k k' v v' : Value} {σ' : AMem L} (hm : MRel P κ ρ σ w) (h : aMapUpdate P t m k v σ = some σ') (hmv : VRel ρ m m') (hkv : VRel ρ k k') (hv : VRel ρ v v') :
    ∃ w', (Instr.mapUpdate t m' k' v').run P w = .ok () w' ∧ MRel P κ ρ σ' w' := by
  unfold aMapUpdate at h
  split at h
  · rename_i kt et r hmo
    have hu := mapOf_spec hmo
    obtain ⟨l, hr, rfl⟩ := hmv.map_inv
    split at h
    · rename_i d es hd hg
      split at h
      · rename_i hc
        simp only [Bool.and_eq_true] at hc
        obtain ⟨hk, hall⟩ := hc
        simp only [Option.some.injEq] at h; subst h
        have hkf := keyFlat_of_fits hk
        have hkk : k' = k := by
          have := hkf
          cases k <;> simp [keyFlat] at this
          · exact hkv.bool_inv
          · exact hkv.int_inv
          · exact hkv.string_inv
        subst hkk
        obtain ⟨l', hr', ces, clock, hh, hst, hn, hf, es', hp, hlen, hat⟩ := hm.live r _ hg rfl
        rw [hr] at hr'; cases hr'
        have hall' : ∀ kv ∈ es, keyFits d kv.1 = true := fun kv hkv => by simpa using List.all_eq_true.1 hall kv hkv
        have hn' : (es'.map (·.1)).Nodup := (hp.map _).nodup_iff.2 hn
        have hlt : l.blk < w.heap.size := hm.old r l hr
        obtain ⟨hk1, hk2⟩ := keys_mapSet (v := v) hkf hn hf
        rcases find_sound (ρ := ρ) hk hall' hp hn ⟨hlen, hat⟩ with ⟨h1, h2, h3⟩ | ⟨v2, i, e, h1, h2, h3, h4, h5, h6⟩
        · refine ⟨{ w with heap := w.heap.setIfInBounds l.blk (.map (ces.push { key := k', val := v', born := clock }) (clock + 1)) }, ?_, ?_⟩
          · simp only [Instr.mapUpdate, Sem.run_bind, run_underlying hu, Result.andThen_ok, MapKept.run_getObj_map hh]
            rw [MapKept.run_checkKey hd (isKey_of hk) _ 9999]
            simp only [Result.andThen_ok]
            rw [MapKept.run_findKey hd h2]
            simp only [Result.andThen_ok]
            rw [MapKept.run_setObj_map _ hh]
          · refine hm.change hg rfl rfl rfl rfl hr ⟨ces.push { key := k', val := v', born := clock }, clock + 1, by simp [hlt], hst.push, hk1, hk2, es' ++ [(k', v)], ?_, by simp [hlen], fun j kv e hj he => ?_⟩ (by simp) (fun c hc => by simp [Ne.symm hc])
            · rw [← mapSet_new (v := v) h3]
              exact mapSet_congr hkf hp hn
            · rcases Nat.lt_or_ge j es'.length with hj2 | hj2
              · rw [List.getElem?_append_left hj2] at hj
                rw [Array.getElem?_push_lt (by omega)] at he
                exact hat j kv e hj (by rw [Array.getElem?_eq_getElem (by omega)]; exact he)
              · rw [List.getElem?_append_right hj2] at hj
                have : j = es'.length := by
                  rcases Nat.lt_or_ge es'.length j with h | h
                  · rw [List.getElem?_eq_none (by simp; omega)] at hj; cases hj
                  · omega
                subst this
                rw [hlen, Array.getElem?_push_size] at he
                simp at hj he
                subst hj he
                exact ⟨rfl, hv⟩
        · have hil : i < ces.size := (Array.getElem?_eq_some_iff.1 h3).1
          refine ⟨{ w with heap := w.heap.setIfInBounds l.blk (.map (ces.modify i fun e => { e with key := k', val := v' }) clock) }, ?_, ?_⟩
          · simp only [Instr.mapUpdate, Sem.run_bind, run_underlying hu, Result.andThen_ok, MapKept.run_getObj_map hh]
            rw [MapKept.run_checkKey hd (isKey_of hk) _ 9999]
            simp only [Result.andThen_ok]
            rw [MapKept.run_findKey hd h2]
            simp only [Result.andThen_ok, h3, Option.map_some, Option.getD_some, h4]
            have hkt : (Instr.keyThatStays k' k').run P w = .ok k' w := by
              have : Instr.sameBits 10000 k' k' = true := by
                have := hkf
                cases k' <;> simp [keyFlat] at this <;> simp [Instr.sameBits, MapKept.bytes_beq]
              simp [Instr.keyThatStays, this]
            rw [Sem.run_bind, hkt]
            simp only [Result.andThen_ok]
            rw [MapKept.run_setObj_map _ hh]
          · refine hm.change hg rfl rfl rfl rfl hr ⟨ces.modify i fun e => { e with key := k', val := v' }, clock, by simp [hlt], hst.modify, hk1, hk2, es'.set i (k', v), ?_, by simp [hlen], fun j kv e' hj he => ?_⟩ (by simp) (fun c hc => by simp [Ne.symm hc])
            · rw [← mapSet_at (v := v) hkf hn' h5]
              exact mapSet_congr hkf hp hn
            · rw [List.getElem?_set] at hj
              rw [Array.getElem?_modify] at he
              by_cases hij : i = j
              · subst hij
                rw [if_pos rfl, if_pos (by omega)] at hj
                rw [if_pos rfl, h3] at he
                simp at hj he
                subst hj he
                exact ⟨rfl, hv⟩
              · rw [if_neg hij] at hj he
                exact hat j kv e' hj he
      · cases h
    · cases h
  · cases h

theorem delete_sound {t ty : TypeId} {ts : Array TypeId} {m m' k k' : Value} {σ' : AMem L} (hm : MRel P κ ρ σ w) (ht : ts[0]? = some t) (h : aDelete P t m k σ = some σ') (hmv : VRel ρ m m') (hkv : VRel ρ k k') :
    ∃ w', (Builtin.delete_ ts ty #[m', k']).run P w = .ok (.tuple #[]) w' ∧ MRel P κ ρ σ' w' := by
  unfold aDelete at h
  split at h
  · rename_i kt et r hmo
    have hu := mapOf_spec hmo
    obtain ⟨l, hr, rfl⟩ := hmv.map_inv
    split at h
    · rename_i d es hd hg
      split at h
      · rename_i hc
        simp only [Bool.and_eq_true] at hc
        obtain ⟨hk, hall⟩ := hc
        simp only [Option.some.injEq] at h; subst h
        have hkf := keyFlat_of_fits hk
        have hkk : k' = k := by
          have := hkf
          cases k <;> simp [keyFlat] at this
          · exact hkv.bool_inv
          · exact hkv.int_inv
          · exact hkv.string_inv
        subst hkk
        obtain ⟨l', hr', ces, clock, hh, hst, hn, hf, es', hp, hlen, hat⟩ := hm.live r _ hg rfl
        rw [hr] at hr'; cases hr'
        have hall' : ∀ kv ∈ es, keyFits d kv.1 = true := fun kv hkv => by simpa using List.all_eq_true.1 hall kv hkv
        have hn' : (es'.map (·.1)).Nodup := (hp.map _).nodup_iff.2 hn
        have hlt : l.blk < w.heap.size := hm.old r l hr
        have hsub : (others k' es).Sublist es := List.filter_sublist
        have hnd : ((mapDel k' es).map (·.1)).Nodup := by rw [mapDel_eq hkf hn]; exact (hsub.map _).nodup hn
        have hfd : ∀ x ∈ (mapDel k' es).map (·.1), keyFlat x = true := by rw [mapDel_eq hkf hn]; exact fun x hx => hf x ((hsub.map _).subset hx)
        have hpd : (mapDel k' es').Perm (mapDel k' es) := by rw [mapDel_eq hkf hn, mapDel_eq hkf hn']; exact others_perm hp
        rcases find_sound (ρ := ρ) hk hall' hp hn ⟨hlen, hat⟩ with ⟨h1, h2, h3⟩ | ⟨v2, i, e, h1, h2, h3, h4, h5, h6⟩
        · refine ⟨{ w with heap := w.heap.setIfInBounds l.blk (.map ces clock) }, ?_, ?_⟩
          · simp only [Builtin.delete_, ht]
            simp only [List.getElem?_toArray, List.getElem?_cons_zero, List.getElem?_cons_succ]
            simp only [Sem.run_bind, run_underlying hu, Result.andThen_ok, MapKept.run_getObj_map hh]
            rw [MapKept.run_checkKey hd (isKey_of hk) _ 9999]
            simp only [Result.andThen_ok]
            rw [MapKept.run_findKey hd h2]
            simp only [Result.andThen_ok]
            rw [Sem.run_bind, MapKept.run_setObj_map _ hh]
            rfl
          · refine hm.change hg rfl rfl rfl rfl hr ⟨ces, clock, by simp [hlt], hst, hnd, hfd, es', ?_, hlen, hat⟩ (by simp) (fun c hc => by simp [Ne.symm hc])
            rw [← mapDel_none h3]; exact hpd
        · have hil : i < ces.size := (Array.getElem?_eq_some_iff.1 h3).1
          refine ⟨{ w with heap := w.heap.setIfInBounds l.blk (.map (ces.eraseIdxIfInBounds i) clock) }, ?_, ?_⟩
          · simp only [Builtin.delete_, ht]
            simp only [List.getElem?_toArray, List.getElem?_cons_zero, List.getElem?_cons_succ]
            simp only [Sem.run_bind, run_underlying hu, Result.andThen_ok, MapKept.run_getObj_map hh]
            rw [MapKept.run_checkKey hd (isKey_of hk) _ 9999]
            simp only [Result.andThen_ok]
            rw [MapKept.run_findKey hd h2]
            simp only [Result.andThen_ok]
            rw [Sem.run_bind, MapKept.run_setObj_map _ hh]
            rfl
          · have hsz : (ces.eraseIdxIfInBounds i).toList = ces.toList.eraseIdx i := by
              unfold Array.eraseIdxIfInBounds; rw [dif_pos hil]; simp
            refine hm.change hg rfl rfl rfl rfl hr ⟨ces.eraseIdxIfInBounds i, clock, by simp [hlt], hst.erase hsz, hnd, hfd, es'.eraseIdx i, ?_, ?_, fun j kv e' hj he => ?_⟩ (by simp) (fun c hc => by simp [Ne.symm hc])
            · rw [← mapDel_at hkf hn' h5]; exact hpd
            · rw [← Array.length_toList, hsz, List.length_eraseIdx, List.length_eraseIdx]; simp [hlen]
            · rw [← Array.getElem?_toList, hsz, List.getElem?_eraseIdx] at he
              rw [List.getElem?_eraseIdx] at hj
              split at hj
              · rename_i hji; rw [if_pos hji] at he; exact hat j kv e' hj (by simpa using he)
              · rename_i hji; rw [if_neg hji] at he; exact hat (j + 1) kv e' hj (by simpa using he)
      · cases h
    · cases h
  · cases h

theorem makeMap_sound {t : TypeId} {b nx : Nat} (hm : MRel P κ ρ σ w) (hb : Free ρ σ b nx) : Does P κ ρ b (Instr.makeMap t none) w (.map (some b)) (σ.put b nx (.map [])) := by
  have hle := Rho.le_add (⟨w.heap.size, 0, 0, 0⟩ : Loc) hb.map
  refine ⟨.map (some w.heap.size), { w with heap := w.heap.push (.map #[] 0) }, ρ.add b ⟨w.heap.size, 0, 0, 0⟩, rfl, hle, fun x hx => ρ.add_ne _ hx, .map (ρ.add_at b _), ?_⟩
  exact hm.put hb.get hb.map hb.le hb.lt rfl ⟨#[], 0, by simp, ⟨by simp, by simp⟩, by simp, by simp, [], by simp, by simp, fun i kv e h => by simp at h⟩

end Go.Ax
