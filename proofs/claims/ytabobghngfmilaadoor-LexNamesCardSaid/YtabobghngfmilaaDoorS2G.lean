/- A function's call out of its body; what is left behind may be forgotten; all operations in one function. -/
import Derived.Test.YtabobghngfmilaaDoorS2F
set_option linter.unusedSimpArgs false
set_option linter.unusedVariables false
namespace Go.S2
variable {P : Program}

/-! ### A call out of the body -/

theorem AR.init {κ : Cx} {args : List AV} {vals : Array Value} (hv : VRL κ args vals.toList) {n : Nat} (hn : args.length ≤ n) :
    AR κ (AF.init args n) { tmps := vals ++ Array.replicate (n - vals.size) Go.undef, defers := [] } := by
  have hl : vals.size = args.length := by have := hv.length; simpa using this
  refine ⟨by simp [AF.init]; omega, fun j => ?_, .nil⟩
  simp only [AF.init]
  rw [Array.getD_eq_getD_getElem?]
  by_cases hlt : j < args.length
  · rw [Array.getElem?_append_left (by omega), List.getElem?_eq_getElem hlt]
    obtain ⟨v, h1, h2⟩ := hv.get (List.getElem?_eq_getElem hlt)
    have h1' : vals[j]? = some v := by simpa using h1
    rw [h1']
    exact h2
  · rw [Array.getElem?_append_right (by omega), List.getElem?_eq_none (by omega)]
    simp only [Option.getD_none]
    have : ((Array.replicate (n - vals.size) Go.undef)[j - vals.size]?).getD Go.undef = Go.undef := by
      rw [Array.getElem?_replicate]; split <;> rfl
    rw [this]
    exact undef_rel κ

def resOne (tmps : Array Value) : ResultVar → Sem Value
  | .tmp t => pure (tmps.getD t Go.undef)
  | .cell a t => do loadVar t (← asAddr (tmps.getD a Go.undef))

theorem results_eq (fn : Func) (tmps : Array Value) : results fn tmps = (do let vs ← fn.results.mapM (resOne tmps); pure (if h : vs.size = 1 then vs[0] else .tuple vs)) := by
  unfold results
  congr 1

theorem ares1_rel {a : AF} {h : AHeap} {κ : Cx} {act : Act} {w : World} (ha : AR κ a act) (hh : HR P κ h w) {r : ResultVar} {v : AV} (hr : ares1 P a h r = some v) :
    ∃ val, (resOne act.tmps r).run P w = .ok val w ∧ VR κ v val := by
  cases r with
  | tmp t =>
    simp only [ares1, Option.some.injEq] at hr
    subst hr
    exact ⟨_, rfl, ha.t t⟩
  | cell t ty =>
    simp only [ares1] at hr
    have hv := ha.t t
    split at hr
    · rename_i id off he
      rw [he] at hv
      simp only [VR] at hv
      obtain ⟨pl, hp, hv⟩ := hv
      obtain ⟨val, h1, h2⟩ := ald_sound hh hr hp
      exact ⟨val, by simp only [resOne, hv, asAddr, Sem.run_bind, Sem.run_pure, Result.andThen_ok, h1], h2⟩
    · cases hr

theorem aresL_rel {a : AF} {h : AHeap} {κ : Cx} {act : Act} {w : World} (ha : AR κ a act) (hh : HR P κ h w) : ∀ {rs : List ResultVar} {vs : List AV}, aresL P a h rs = some vs →
    ∃ vals : List Value, (rs.mapM (resOne act.tmps)).run P w = .ok vals w ∧ VRL κ vs vals
  | [], vs, hr => by simp only [aresL, Option.some.injEq] at hr; subst hr; exact ⟨[], by simp, .nil⟩
  | r :: rs, vs, hr => by
    simp only [aresL] at hr
    cases h1 : ares1 P a h r with
    | none => rw [h1] at hr; simp at hr
    | some v =>
      cases h2 : aresL P a h rs with
      | none => rw [h1, h2] at hr; simp at hr
      | some vs' =>
        rw [h1, h2] at hr
        simp only [Option.some.injEq] at hr
        subst hr
        obtain ⟨val, h3, h4⟩ := ares1_rel ha hh h1
        obtain ⟨vals, h5, h6⟩ := aresL_rel ha hh h2
        refine ⟨val :: vals, ?_, .cons h4 h6⟩
        rw [List.mapM_cons, Sem.run_bind, h3, Result.andThen_ok, Sem.run_bind, h5, Result.andThen_ok]
        rfl

theorem ares_rel {fn : Func} {a : AF} {h : AHeap} {κ : Cx} {act : Act} {w : World} (ha : AR κ a act) (hh : HR P κ h w) {v : AV} (hr : ares P fn a h = some v) : ∃ val, (results fn act.tmps).run P w = .ok val w ∧ VR κ v val := by
  unfold ares at hr
  cases h1 : aresL P a h fn.results.toList with
  | none => rw [h1] at hr; simp at hr
  | some vs =>
    rw [h1] at hr
    obtain ⟨vals, h2, h3⟩ := aresL_rel ha hh h1
    have hrun : ∀ val : Value, (if hh : vals.toArray.size = 1 then vals.toArray[0] else .tuple vals.toArray) = val → (results fn act.tmps).run P w = .ok val w := by
      intro val hval
      rw [results_eq, Sem.run_bind, Array.mapM_eq_mapM_toList, Sem.run_map, h2, Result.andThen_ok, Result.andThen_ok]
      rw [← hval]
      rfl
    have hl := h3.length
    match vs, hr with
    | [x], hr =>
      simp only [Option.some.injEq] at hr
      subst hr
      simp only [VRL] at h3
      obtain ⟨y, ys, rfl, h4, rfl⟩ := h3
      exact ⟨y, hrun y (by simp), h4⟩
    | [], hr =>
      simp only [Option.some.injEq] at hr
      subst hr
      refine ⟨.tuple vals.toArray, hrun _ (dif_neg (by simp only [List.size_toArray]; simp only [List.length_nil, List.length_cons] at hl; omega)), by simp only [VR]; exact ⟨vals, rfl, h3⟩⟩
    | x :: y :: r, hr =>
      simp only [Option.some.injEq] at hr
      subst hr
      refine ⟨.tuple vals.toArray, hrun _ (dif_neg (by simp only [List.size_toArray]; simp only [List.length_nil, List.length_cons] at hl; omega)), by simp only [VR]; exact ⟨vals, rfl, h3⟩⟩

/-- What may be said of an ending, after the state is read in another way. -/
structure Out (P : Program) (m : Nat) (R : AE → AHeap → Prop) (r : AE) (h : AHeap) : Prop where
  co : ∀ κ w e, m ≤ κ.pl.length → ER κ r e → HR P κ h w → ∃ r' κ' h', ER κ' r' e ∧ HR P κ' h' w ∧ FrK m κ h w κ' h' w ∧ R r' h'

theorem Out.here {m : Nat} {R : AE → AHeap → Prop} {r : AE} {h : AHeap} (s : R r h) : Out P m R r h :=
  ⟨fun κ w e _ h1 h2 => ⟨r, κ, h, h1, h2, FrK.refl _ _ _ _, s⟩⟩

theorem FrK.full {κ κ' : Cx} {h h' : AHeap} {w w' : World} {m : Nat} (hm : κ.pl.length = m) (f : FrK m κ h w κ' h' w') : Fr κ h w κ' h' w' := by
  refine ⟨⟨⟨κ'.pl.drop m, ?_⟩, f.fz⟩, f.fr⟩
  have hl := f.len (by omega : m ≤ κ.pl.length)
  apply List.ext_getElem?
  intro i
  by_cases hi : i < m
  · rw [f.keep i hi, List.getElem?_append_left (by omega)]
  · rw [List.getElem?_append_right (by omega), List.getElem?_drop]
    congr 1; omega

theorem SBody.of_body {f : FuncId} {fn : Func} {c : Code} {args : List AV} {R : AE → AHeap → Prop} {h : AHeap} (hf : P.funcs[f]? = some fn) (hb : fn.body = some c) (hn : args.length ≤ fn.ntmps)
    (s : SWP h.length P c (bodyA P fn (Out P h.length R)) (AF.init args fn.ntmps) h) : SBody P f args R h := by
  intro κ vals w hv hh
  have hm : h.length ≤ κ.pl.length := by rw [hh.len]; exact Nat.le_refl _
  refine calls_of_wp hf hb (wp_mono (s κ _ w hm (AR.init hv hn) hh) ?_)
  rintro e act w' ⟨x, κ', a', h', hx, ha, hh', hf', hq⟩
  have hm' := hf'.len hm
  have hd : a'.d = [] → act.defers = [] := fun hd => by
    have := ha.d
    rw [hd] at this
    generalize act.defers = ds at this
    cases this; rfl
  have fin : ∀ r e, ER κ' r e → Out P h.length R r h' → ∃ r κ' h', ER κ' r e ∧ HR P κ' h' w' ∧ Fr κ h w κ' h' w' ∧ R r h' := by
    intro r e h1 h2
    obtain ⟨r2, κ2, h3, h4, h5, h6, h7⟩ := h2.co κ' w' e hm' h1 hh'
    exact ⟨r2, κ2, h3, h4, h5, (hf'.trans h6).full hh.len, h7⟩
  have rets : (a'.d = [] ∧ ∃ v, ares P fn a' h' = some v ∧ Out P h.length R (.ret v) h') → act.defers = [] ∧ ∃ v, (results fn act.tmps).run P w' = .ok v w' ∧
      ∃ r κ' h', ER κ' r (.returned v) ∧ HR P κ' h' w' ∧ Fr κ h w κ' h' w' ∧ R r h' := by
    rintro ⟨h1, v, h2, h3⟩
    obtain ⟨val, h4, h5⟩ := ares_rel ha hh' h2
    exact ⟨hd h1, val, h4, fin (.ret v) _ ⟨val, rfl, h5⟩ h3⟩
  cases x with
  | normal => simp only [XR] at hx; subst hx; exact rets hq
  | ret => simp only [XR] at hx; subst hx; exact rets hq
  | exit id => exact hq.elim
  | goto l => exact hq.elim
  | panic v =>
    obtain ⟨y, rfl, hy⟩ := hx
    exact ⟨hd hq.1, fin (.panic v) _ ⟨y, rfl, hy⟩ hq.2⟩

theorem SC.of_body {f : FuncId} {fn : Func} {c : Code} {args : List AV} {R : AE → AHeap → Prop} {h : AHeap} (hf : P.funcs[f]? = some fn) (hname : (fn.name == "runtime.NumGoroutine") = false) (hb : fn.body = some c) (hn : args.length ≤ fn.ntmps)
    (s : SWP h.length P c (bodyA P fn (Out P h.length R)) (AF.init args fn.ntmps) h) : SC P f args R h :=
  .inl ⟨⟨fn, hf, hname, by rw [hb]; rfl⟩, SBody.of_body hf hb hn s⟩

end Go.S2
