/- A function's call out of its body; what is left behind may be forgotten; all operations in one function. -/
import Derived.Test.YtabobghngfmilaaDoorSimF
set_option linter.unusedSimpArgs false
set_option linter.unusedVariables false
namespace Go.Sim
variable {P : Program}

/-! ### A call out of the body -/

theorem AR.init {ρ : List Pl} {args : List AV} {vals : Array Value} (hv : VRL ρ args vals.toList) {n : Nat} (hn : args.length ≤ n) :
    AR ρ (AF.init args n) { tmps := vals ++ Array.replicate (n - vals.size) Go.undef, defers := [] } := by
  have hl : vals.size = args.length := by have := hv.length; simpa using this
  refine ⟨by simp [AF.init]; omega, fun j => ?_, .nil⟩
  simp only [AF.init]
  rw [Array.getD_eq_getD_getElem?]
  by_cases hlt : j < args.length
  · rw [Array.getElem?_append_left (by omega), List.getElem?_eq_getElem hlt]
    obtain ⟨v, h1, h2⟩ := hv.get (List.getElem?_eq_getElem hlt)
    have h1' : vals[j]? = some v := by simpa using h1
    rw [h1']
    exact h2
  · rw [Array.getElem?_append_right (by omega), List.getElem?_eq_none (by omega)]
    simp only [Option.getD_none]
    have : ((Array.replicate (n - vals.size) Go.undef)[j - vals.size]?).getD Go.undef = Go.undef := by
      rw [Array.getElem?_replicate]; split <;> rfl
    rw [this]
    exact undef_rel ρ

def resOne (tmps : Array Value) : ResultVar → Sem Value
  | .tmp t => pure (tmps.getD t Go.undef)
  | .cell a t => do loadVar t (← asAddr (tmps.getD a Go.undef))

theorem results_eq (fn : Func) (tmps : Array Value) : results fn tmps = (do let vs ← fn.results.mapM (resOne tmps); pure (if h : vs.size = 1 then vs[0] else .tuple vs)) := by
  unfold results
  congr 1

theorem ares1_rel {a : AF} {h : AHeap} {ρ : List Pl} {act : Act} {w : World} (ha : AR ρ a act) (hh : HR P ρ h w) {r : ResultVar} {v : AV} (hr : ares1 P a h r = some v) :
    ∃ val, (resOne act.tmps r).run P w = .ok val w ∧ VR ρ v val := by
  cases r with
  | tmp t =>
    simp only [ares1, Option.some.injEq] at hr
    subst hr
    exact ⟨_, rfl, ha.t t⟩
  | cell t ty =>
    simp only [ares1] at hr
    have hv := ha.t t
    split at hr
    · rename_i id off he
      rw [he] at hv
      simp only [VR] at hv
      obtain ⟨pl, hp, hv⟩ := hv
      obtain ⟨val, h1, h2⟩ := ald_sound hh hr hp
      exact ⟨val, by simp only [resOne, hv, asAddr, Sem.run_bind, Sem.run_pure, Result.andThen_ok, h1], h2⟩
    · cases hr

theorem aresL_rel {a : AF} {h : AHeap} {ρ : List Pl} {act : Act} {w : World} (ha : AR ρ a act) (hh : HR P ρ h w) : ∀ {rs : List ResultVar} {vs : List AV}, aresL P a h rs = some vs →
    ∃ vals : List Value, (rs.mapM (resOne act.tmps)).run P w = .ok vals w ∧ VRL ρ vs vals
  | [], vs, hr => by simp only [aresL, Option.some.injEq] at hr; subst hr; exact ⟨[], by simp, .nil⟩
  | r :: rs, vs, hr => by
    simp only [aresL] at hr
    cases h1 : ares1 P a h r with
    | none => rw [h1] at hr; simp at hr
    | some v =>
      cases h2 : aresL P a h rs with
      | none => rw [h1, h2] at hr; simp at hr
      | some vs' =>
        rw [h1, h2] at hr
        simp only [Option.some.injEq] at hr
        subst hr
        obtain ⟨val, h3, h4⟩ := ares1_rel ha hh h1
        obtain ⟨vals, h5, h6⟩ := aresL_rel ha hh h2
        refine ⟨val :: vals, ?_, .cons h4 h6⟩
        rw [List.mapM_cons, Sem.run_bind, h3, Result.andThen_ok, Sem.run_bind, h5, Result.andThen_ok]
        rfl

theorem ares_rel {fn : Func} {a : AF} {h : AHeap} {ρ : List Pl} {act : Act} {w : World} (ha : AR ρ a act) (hh : HR P ρ h w) {v : AV} (hr : ares P fn a h = some v) : ∃ val, (results fn act.tmps).run P w = .ok val w ∧ VR ρ v val := by
  unfold ares at hr
  cases h1 : aresL P a h fn.results.toList with
  | none => rw [h1] at hr; simp at hr
  | some vs =>
    rw [h1] at hr
    obtain ⟨vals, h2, h3⟩ := aresL_rel ha hh h1
    have hrun : ∀ val : Value, (if hh : vals.toArray.size = 1 then vals.toArray[0] else .tuple vals.toArray) = val → (results fn act.tmps).run P w = .ok val w := by
      intro val hval
      rw [results_eq, Sem.run_bind, Array.mapM_eq_mapM_toList, Sem.run_map, h2, Result.andThen_ok, Result.andThen_ok]
      rw [← hval]
      rfl
    have hl := h3.length
    match vs, hr with
    | [x], hr =>
      simp only [Option.some.injEq] at hr
      subst hr
      simp only [VRL] at h3
      obtain ⟨y, ys, rfl, h4, rfl⟩ := h3
      exact ⟨y, hrun y (by simp), h4⟩
    | [], hr =>
      simp only [Option.some.injEq] at hr
      subst hr
      refine ⟨.tuple vals.toArray, hrun _ (dif_neg (by simp only [List.size_toArray]; simp only [List.length_nil, List.length_cons] at hl; omega)), by simp only [VR]; exact ⟨vals, rfl, h3⟩⟩
    | x :: y :: r, hr =>
      simp only [Option.some.injEq] at hr
      subst hr
      refine ⟨.tuple vals.toArray, hrun _ (dif_neg (by simp only [List.size_toArray]; simp only [List.length_nil, List.length_cons] at hl; omega)), by simp only [VR]; exact ⟨vals, rfl, h3⟩⟩

theorem SBody.of_body {f : FuncId} {fn : Func} {c : Code} {args : List AV} {R : AE → AHeap → Prop} {h : AHeap} (hf : P.funcs[f]? = some fn) (hb : fn.body = some c) (hn : args.length ≤ fn.ntmps)
    (s : SWP P c (bodyA P fn R) (AF.init args fn.ntmps) h) : SBody P f args R h := by
  intro ρ vals w hv hh
  refine calls_of_wp hf hb (wp_mono (s ρ _ w (AR.init hv hn) hh) ?_)
  rintro e act w' ⟨x, ρ', a', h', hx, ha, hh', hf', hq⟩
  have hd : a'.d = [] → act.defers = [] := fun hd => by
    have := ha.d
    rw [hd] at this
    generalize act.defers = ds at this
    cases this; rfl
  have rets : (a'.d = [] ∧ ∃ v, ares P fn a' h' = some v ∧ R (.ret v) h') → act.defers = [] ∧ ∃ v, (results fn act.tmps).run P w' = .ok v w' ∧
      ∃ r ρ' h', ER ρ' r (.returned v) ∧ HR P ρ' h' w' ∧ Fr ρ h w ρ' h' w' ∧ R r h' := by
    rintro ⟨h1, v, h2, h3⟩
    obtain ⟨val, h4, h5⟩ := ares_rel ha hh' h2
    exact ⟨hd h1, val, h4, .ret v, ρ', h', ⟨val, rfl, h5⟩, hh', hf', h3⟩
  cases x with
  | normal => simp only [XR] at hx; subst hx; exact rets hq
  | ret => simp only [XR] at hx; subst hx; exact rets hq
  | exit id => exact hq.elim
  | goto l => exact hq.elim
  | panic v =>
    obtain ⟨y, rfl, hy⟩ := hx
    exact ⟨hd hq.1, .panic v, ρ', h', ⟨y, rfl, hy⟩, hh', hf', hq.2⟩

theorem SC.of_body {f : FuncId} {fn : Func} {c : Code} {args : List AV} {R : AE → AHeap → Prop} {h : AHeap} (hf : P.funcs[f]? = some fn) (hname : (fn.name == "runtime.NumGoroutine") = false) (hb : fn.body = some c) (hn : args.length ≤ fn.ntmps)
    (s : SWP P c (bodyA P fn R) (AF.init args fn.ntmps) h) : SC P f args R h :=
  .inl ⟨⟨fn, hf, hname, by rw [hb]; rfl⟩, SBody.of_body hf hb hn s⟩

/-! ### What is left behind may be forgotten -/

mutual
def AV.under (n : Nat) : AV → Prop
  | .p (some a) => a.1 < n
  | .sl (some a) _ _ _ => a.1 < n
  | .fn _ first caps => underL n first ∧ underL n caps
  | .ifc _ x => AV.under n x
  | .ag cs => underL n cs
  | .tu vs => underL n vs
  | _ => True
def underL (n : Nat) : List AV → Prop
  | [] => True
  | x :: xs => AV.under n x ∧ underL n xs
end

mutual
theorem VR.cut {ρ τ : List Pl} : ∀ {x : AV} {v : Value}, x.under ρ.length → VR (ρ ++ τ) x v → VR ρ x v
  | .undef, _, _, _ => by simp [VR]
  | .b _, _, _, h => by simpa [VR] using h
  | .i _ _, _, _, h => by simpa [VR] using h
  | .s _, _, _, h => by simpa [VR] using h
  | .p none, _, _, h => by simpa [VR] using h
  | .p (some a), _, hb, h => by
    simp only [AV.under] at hb
    simp only [VR] at h ⊢
    obtain ⟨pl, h1, h2⟩ := h
    exact ⟨pl, by rwa [List.getElem?_append_left hb] at h1, h2⟩
  | .sl none _ _ _, _, _, h => by simpa [VR] using h
  | .sl (some a) _ _ _, _, hb, h => by
    simp only [AV.under] at hb
    simp only [VR] at h ⊢
    rcases h with ⟨g1, g2, ⟨pl, g3⟩, g4⟩ | ⟨pl, cap, h1, h2⟩
    · exact .inl ⟨g1, g2, ⟨pl, by rwa [List.getElem?_append_left hb] at g3⟩, g4⟩
    · exact .inr ⟨pl, cap, by rwa [List.getElem?_append_left hb] at h1, h2⟩
  | .fn _ _ _, _, hb, h => by
    simp only [AV.under] at hb
    simp only [VR] at h ⊢
    obtain ⟨F, C, h1, h2, h3⟩ := h
    exact ⟨F, C, h1, VRL.cut hb.1 h2, VRL.cut hb.2 h3⟩
  | .nofn, _, _, h => by simpa [VR] using h
  | .ifc _ _, _, hb, h => by
    simp only [AV.under] at hb
    simp only [VR] at h ⊢
    obtain ⟨y, h1, h2⟩ := h
    exact ⟨y, h1, VR.cut hb h2⟩
  | .noif, _, _, h => by simpa [VR] using h
  | .ag _, _, hb, h => by
    simp only [AV.under] at hb
    simp only [VR] at h ⊢
    obtain ⟨C, h1, h2⟩ := h
    exact ⟨C, h1, VRL.cut hb h2⟩
  | .tu _, _, hb, h => by
    simp only [AV.under] at hb
    simp only [VR] at h ⊢
    obtain ⟨C, h1, h2⟩ := h
    exact ⟨C, h1, VRL.cut hb h2⟩
theorem VRL.cut {ρ τ : List Pl} : ∀ {xs : List AV} {vs : List Value}, underL ρ.length xs → VRL (ρ ++ τ) xs vs → VRL ρ xs vs
  | [], _, _, h => by simpa [VRL] using h
  | _ :: _, _, hb, h => by
    simp only [underL] at hb
    simp only [VRL] at h ⊢
    obtain ⟨y, ys, h1, h2, h3⟩ := h
    exact ⟨y, ys, h1, VR.cut hb.1 h2, VRL.cut hb.2 h3⟩
end

mutual
theorem VR.under {ρ : List Pl} : ∀ {x : AV} {v : Value}, VR ρ x v → x.under ρ.length
  | .undef, _, _ => by simp [AV.under]
  | .b _, _, _ => by simp [AV.under]
  | .i _ _, _, _ => by simp [AV.under]
  | .s _, _, _ => by simp [AV.under]
  | .p none, _, _ => by simp [AV.under]
  | .p (some a), _, h => by
    simp only [VR] at h
    obtain ⟨pl, h1, _⟩ := h
    simp only [AV.under]
    exact (List.getElem?_eq_some_iff.1 h1).1
  | .sl none _ _ _, _, _ => by simp [AV.under]
  | .sl (some a) _ _ _, _, h => by
    simp only [VR] at h
    simp only [AV.under]
    rcases h with ⟨_, _, ⟨pl, h1⟩, _⟩ | ⟨pl, cap, h1, _⟩
    · exact (List.getElem?_eq_some_iff.1 h1).1
    · exact (List.getElem?_eq_some_iff.1 h1).1
  | .fn _ _ _, _, h => by
    simp only [VR] at h
    obtain ⟨F, C, h1, h2, h3⟩ := h
    simp only [AV.under]
    exact ⟨VRL.under h2, VRL.under h3⟩
  | .nofn, _, _ => by simp [AV.under]
  | .ifc _ _, _, h => by
    simp only [VR] at h
    obtain ⟨y, h1, h2⟩ := h
    simp only [AV.under]
    exact VR.under h2
  | .noif, _, _ => by simp [AV.under]
  | .ag _, _, h => by
    simp only [VR] at h
    obtain ⟨C, h1, h2⟩ := h
    simp only [AV.under]
    exact VRL.under h2
  | .tu _, _, h => by
    simp only [VR] at h
    obtain ⟨C, h1, h2⟩ := h
    simp only [AV.under]
    exact VRL.under h2
theorem VRL.under {ρ : List Pl} : ∀ {xs : List AV} {vs : List Value}, VRL ρ xs vs → underL ρ.length xs
  | [], _, _ => by simp [underL]
  | _ :: _, _, h => by
    simp only [VRL] at h
    obtain ⟨y, ys, h1, h2, h3⟩ := h
    simp only [underL]
    exact ⟨VR.under h2, VRL.under h3⟩
end


/-- The heap without its last objects. -/
theorem HR.cut {ρ τ : List Pl} {h e : AHeap} {w : World} (hh : HR P (ρ ++ τ) (h ++ e) w) (hl : ρ.length = h.length) (hg : P.globals.size ≤ h.length)
    (hu : ∀ (id : Nat) o, h[id]? = some o → o.st ≠ .dead → underL h.length o.cells) : HR P ρ h w := by
  refine ⟨hl, fun g hgl => ?_, fun id o pl h1 h2 h3 => ?_, fun i j o o' pl pl' h1 h2 h3 h4 h5 h6 h7 => ?_⟩
  · obtain ⟨pl, h1, h2⟩ := hh.glob g hgl
    exact ⟨pl, by rwa [List.getElem?_append_left (by omega)] at h1, h2⟩
  · have hid : id < h.length := (List.getElem?_eq_some_iff.1 h1).1
    obtain ⟨cur, e', fz, c1, c2, c3, c4, c5⟩ := hh.obj id o pl (by rw [List.getElem?_append_left hid]; exact h1) (by rw [List.getElem?_append_left (by omega)]; exact h2) h3
    exact ⟨cur, e', fz, c1, c2, c3, VRL.cut (by rw [hl]; exact hu id o h1 h3) c4, c5⟩
  · have hi : i < h.length := (List.getElem?_eq_some_iff.1 h1).1
    have hj : j < h.length := (List.getElem?_eq_some_iff.1 h2).1
    exact hh.excl i j o o' pl pl' (by rw [List.getElem?_append_left hi]; exact h1) (by rw [List.getElem?_append_left hj]; exact h2) (by rw [List.getElem?_append_left (by omega)]; exact h3) (by rw [List.getElem?_append_left (by omega)]; exact h4) h5 h6 h7

def AE.under (n : Nat) : AE → Prop
  | .ret v => v.under n
  | .panic v => v.under n

theorem ER.cut {ρ τ : List Pl} {r : AE} {e : Ending} (hu : r.under ρ.length) (h : ER (ρ ++ τ) r e) : ER ρ r e := by
  cases r with
  | ret v => obtain ⟨y, h1, h2⟩ := h; exact ⟨y, h1, VR.cut hu h2⟩
  | panic v => obtain ⟨y, h1, h2⟩ := h; exact ⟨y, h1, VR.cut hu h2⟩

theorem Fr.cut {ρ ρ' τ : List Pl} {h h' e : AHeap} {w w' : World} (f : Fr ρ h w (ρ' ++ τ) (h' ++ e) w') (hl : ρ.length ≤ ρ'.length) (hl' : ρ'.length = h'.length) : Fr ρ h w ρ' h' w' := by
  obtain ⟨σ, hσ⟩ := f.pre
  refine ⟨⟨ρ'.drop ρ.length, ?_⟩, f.os, f.tape, f.output, f.size, f.block, fun k hk => ?_⟩
  · have h1 : (ρ' ++ τ).take ρ.length = ρ := by rw [hσ]; simp
    rw [List.take_append_of_le_length hl] at h1
    conv => lhs; rw [← List.take_append_drop ρ.length ρ', h1]
  · obtain ⟨id, o, pl, h1, h2, h3, h4⟩ := hk
    have hid : id < h'.length := (List.getElem?_eq_some_iff.1 h1).1
    exact f.own k ⟨id, o, pl, by rw [List.getElem?_append_left hid]; exact h1, by rw [List.getElem?_append_left (by omega)]; exact h2, h3, h4⟩

/-- A call's new objects are forgotten where nothing names them. -/
theorem SC.forget {f : FuncId} {args : List AV} {R R' : AE → AHeap → Prop} {h : AHeap} (s : SC P f args R h)
    (hr : ∀ r h2, R r h2 → ∃ h1 e, h2 = h1 ++ e ∧ h.length ≤ h1.length ∧ ((∀ (id : Nat) o, h[id]? = some o → o.st ≠ .dead → underL h.length o.cells) → ∀ (id : Nat) o, h1[id]? = some o → o.st ≠ .dead → underL h1.length o.cells) ∧ r.under h1.length ∧ R' r h1) : SC P f args R' h := by
  have key : ∀ {ρ : List Pl} {w : World}, HR P ρ h w → ∀ {r ρ2 h2 w2}, HR P ρ2 h2 w2 → Fr ρ h w ρ2 h2 w2 → R r h2 → ∃ ρ1 τ h1, ρ2 = ρ1 ++ τ ∧ ρ1.length = h1.length ∧ HR P ρ1 h1 w2 ∧ Fr ρ h w ρ1 h1 w2 ∧ r.under ρ1.length ∧ R' r h1 := by
    intro ρ w hh r ρ2 h2 w2 hh2 hf hR
    obtain ⟨h1, e, rfl, hle, hu, hru, hR'⟩ := hr r h2 hR
    have hl2 := hh2.len
    have hl1 : (ρ2.take h1.length).length = h1.length := by simp at hl2 ⊢; omega
    have hu' : ∀ (id : Nat) o, h[id]? = some o → o.st ≠ .dead → underL h.length o.cells := by
      intro id o ho hd
      obtain ⟨pl, hp⟩ := hh.lt ho
      obtain ⟨cur, e', fz, c1, c2, c3, c4, c5⟩ := hh.obj id o pl ho hp hd
      rw [← hh.len]; exact c4.under
    have hgl : P.globals.size ≤ h.length := by
      have hl := hh.len
      by_cases hz : P.globals.size = 0
      · omega
      · obtain ⟨pl, h3, _⟩ := hh.glob (P.globals.size - 1) (by omega)
        have := (List.getElem?_eq_some_iff.1 h3).1
        omega
    refine ⟨ρ2.take h1.length, ρ2.drop h1.length, h1, (List.take_append_drop _ _).symm, hl1, ?_, ?_, by rw [hl1]; exact hru, hR'⟩
    · exact HR.cut (τ := ρ2.drop h1.length) (e := e) (by rw [List.take_append_drop]; exact hh2) hl1 (by omega) (hu hu')
    · exact Fr.cut (τ := ρ2.drop h1.length) (e := e) (by rw [List.take_append_drop]; exact hf) (by rw [hl1, hh.len]; exact hle) hl1
  rcases s with ⟨h1, s⟩ | s
  · refine .inl ⟨h1, fun ρ vals w hv hh => (s ρ vals w hv hh).mono ?_⟩
    rintro e w' ⟨r, ρ2, h2, hE, hh2, hf, hR⟩
    obtain ⟨ρ1, τ, h1, rfl, hl, a1, a2, a3, a4⟩ := key hh hh2 hf hR
    exact ⟨r, ρ1, h1, ER.cut a3 hE, a1, a2, a4⟩
  · refine .inr fun ρ vals w hv hh => ?_
    obtain ⟨v, val, ρ2, h2, w', h3, h4, hh2, hf, hR⟩ := s ρ vals w hv hh
    obtain ⟨ρ1, τ, h1, rfl, hl, a1, a2, a3, a4⟩ := key hh hh2 hf hR
    exact ⟨v, val, ρ1, h1, w', h3, VR.cut a3 h4, a1, a2, a4⟩

/-- The plain case: the heap is as it was, but for what is new and forgotten. -/
theorem SC.same {f : FuncId} {args : List AV} {R : AE → Prop} {h : AHeap} (s : SC P f args (fun r h' => (∃ e, h' = h ++ e) ∧ r.under h.length ∧ R r) h) : SC P f args (fun r h' => h' = h ∧ R r) h :=
  s.forget fun r h2 ⟨⟨e, he⟩, hu, hR⟩ => ⟨h, e, he, Nat.le_refl _, fun h => h, hu, rfl, hR⟩

end Go.Sim
