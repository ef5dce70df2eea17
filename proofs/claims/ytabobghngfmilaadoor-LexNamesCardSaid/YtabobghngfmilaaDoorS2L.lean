/- Regions of open order, computed in the text's order. -/
import Derived.Test.YtabobghngfmilaaDoorS2K
set_option linter.unusedSimpArgs false
set_option linter.unusedVariables false
namespace Go.S2

/-- len, and what aval has. -/
def avalL (E : Env) (ev : Operand → AV) (o : Op) : OR :=
  match o with
  | .call { callee := .builtin .len, args := args, argTypes := tys } =>
    match args.toList, tys.toList with
    | [x], [ty] =>
      match E.ty ty, ev x with
      | some ti, .s s => match ti.d with
        | .str => .val [] (.i .i64 s.length)
        | _ => .no
      | some ti, .sl _ len _ _ => match ti.d with
        | .sl _ => .val [] (.i .i64 len)
        | _ => .no
      | some ti, .im _ len => match ti.d with
        | .sl _ => .val [] (.i .i64 len)
        | _ => .no
      | _, _ => .no
    | _, _ => .no
  | o => aval E ev o

theorem avalL_val {E : Env} {a : AF} {h : AHeap} {o : Oper} {cs : List Prop} {v : AV} (he : avalL E (a.ev E.P) o.op = .val cs v) (hc : AllP cs) : OpV E.P a h o v h := by
  unfold avalL at he
  split at he
  · rename_i args tys hop
    split at he
    · rename_i x ty hx0 ht0
      have e1 : args = #[x] := by rw [← Array.toArray_toList (xs := args), hx0]
      have e2 : tys = #[ty] := by rw [← Array.toArray_toList (xs := tys), ht0]
      subst e1; subst e2
      split at he
      · rename_i ti str hti hx
        split at he
        · rename_i hdt
          cases he
          exact OpV.lenStr hop (atOf_str (by rw [← (Env.at hti).1]; exact hdt)) hx
        · cases he
      · rename_i ti ad len esz tg hti hx
        split at he
        · rename_i e hdt
          cases he
          exact OpV.lenSl hop (atOf_sl (by rw [← (Env.at hti).1]; exact hdt)) hx
        · cases he
      · rename_i ti cs0 len hti hx
        split at he
        · rename_i e hdt
          cases he
          exact OpV.lenIm hop (atOf_sl (by rw [← (Env.at hti).1]; exact hdt)) hx
        · cases he
      · cases he
    · cases he
  · exact aval_val he hc

section
variable (E : Env) (N : Nat) (D : List (FuncId × List AV)) (ds : List (Option Tmp)) (T W A R : List Nat) (n0 : Nat) (Q : AX → AF → AHeap → Prop)

def TDs (next : Option Nat → Nat → (Nat → AV) → AHeap → Prop) (o : Oper) (mode : Option Nat) (i : Nat) (t : Nat → AV) (h : AHeap) : Prop :=
  match o with
  | ⟨dst, op, oty, opos, oafter, guard⟩ =>
    match (match mode with
      | none => false
      | some p => prec T p i) with
    | true => next mode (i + 1) (putT t dst .undef) h
    | false =>
    match dstB N dst with
    | false => False
    | true =>
      match gval ds (mask (looks ds op guard) t) guard with
      | none => False
      | some false => next mode (i + 1) (putT t dst (.tu [])) h
      | some true =>
        match touches op with
        | false =>
          match avalL E (evT E.P (mask (looks ds op guard) t)) op with
          | .val cs v => andL cs (force v fun v => next mode (i + 1) (putT t dst v) h)
          | _ => match op with
            | .indexAddr ty x y => match evT E.P (mask (looks ds op guard) t) x, evT E.P (mask (looks ds op guard) t) y, E.ty ty with
              | .im cells len, .i _ n, some ti => match ti.d with
                | .sl e => match E.ty e with
                  | some te => match te.d with
                    | .none => False
                    | _ => cells.length = len * te.size ∧ 0 ≤ n ∧ n < len ∧ ∃ el, (cells.drop (n.toNat * te.size)).take te.size = el ∧ next mode (i + 1) (putT t dst (.ip el)) h
                  | none => False
                | _ => False
              | _, _, _ => False
            | op => ∃ v, (∀ g, OpV E.P ⟨mask (looks ds op guard) t, N, D⟩ g ⟨dst, op, oty, opos, oafter, guard⟩ v g) ∧ force v fun v => next mode (i + 1) (putT t dst v) h
        | true =>
          match W.elem i with
          | false =>
            match op with
            | .load ty x =>
              match evT E.P (mask (looks ds op guard) t) x, E.ty ty with
              | .p (some (id, off)), some ti =>
                match (match R.elem i with
                  | false => true
                  | true => Nat.blt id n0) with
                | true => match h[id]? with
                  | some ob => match ob.st with
                    | .dead => False
                    | .rw => match aldT ti ob.cells off with
                      | some v => force v fun v => next mode (i + 1) (putT t dst v) h
                      | none => False
                    | .vec => ∃ v, aldT ti ob.cells off = some v ∧ force v fun v => next mode (i + 1) (putT t dst v) h
                    | .frz => ∃ v, aldT ti ob.cells off = some v ∧ force v fun v => next mode (i + 1) (putT t dst v) h
                  | none => False
                | false => False
              | .ip cells, some ti => match aldT ti cells 0 with
                | some v => force v fun v => next mode (i + 1) (putT t dst v) h
                | none => False
              | _, _ => False
            | .call { callee := .value fo, args := args, argTypes := _ } =>
              match evT E.P (mask (looks ds op guard) t) fo with
              | .fn (.func k) first caps => forceL (convL h (first ++ args.toList.map (evT E.P (mask (looks ds op guard) t)) ++ caps)) fun as =>
                ∃ v, Call E.P k as (fun r h' => r = .ret v ∧ h' = h) h ∧ force v fun v => next mode (i + 1) (putT t dst v) h
              | _ => False
            | _ => False
          | true =>
            match mode with
            | some _ => False
            | none =>
            match A.elem i with
            | true =>
              match aval E (evT E.P (mask (looks ds op guard) t)) op with
              | .new cs v ob => match Nat.ble n0 h.length with
                | true => andL cs (lenK h fun hl => force (v hl) fun v => forceH (h ++ [ob]) fun h' => next mode (i + 1) (putT t dst v) h')
                | false => False
              | _ => False
            | false =>
            match op with
            | .store ty x y =>
              match evT E.P (mask (looks ds op guard) t) x, (evT E.P (mask (looks ds op guard) t) y).cells, E.ty ty with
              | .p (some (id, off)), some vs, some ti => forceL vs fun vs =>
                match Nat.beq vs.length ti.size && vs.all AV.one && (match ti.d with | .none => false | _ => true) with
                | true => match h[id]? with
                  | some ob => match ob.st with
                    | .rw => match Nat.ble (off + vs.length) ob.cells.length with
                      | true => forceH (h.set id ⟨ob.ty, splice ob.cells off vs, .rw⟩) fun h' => next mode (i + 1) (putT t dst (.tu [])) h'
                      | false => False
                    | .vec => forceL (nilL vs) fun vs => match flatL vs && Nat.beq vs.length ti.size && vs.all AV.one with
                      | true => off + vs.length ≤ ob.cells.length ∧ forceH (h.set id ⟨ob.ty, splice ob.cells off vs, .vec⟩) fun h' => next mode (i + 1) (putT t dst (.tu [])) h'
                      | false => False
                    | _ => False
                  | none => False
                | false => False
              | _, _, _ => False
            | .call { callee := .value fo, args := args, argTypes := _ } =>
              match evT E.P (mask (looks ds op guard) t) fo with
              | .fn (.func k) first caps => forceL (convL h (first ++ args.toList.map (evT E.P (mask (looks ds op guard) t)) ++ caps)) fun as =>
                (∃ v h2, Call E.P k as (fun r h' => r = .ret v ∧ h' = h2) h ∧ force v fun v => forceH h2 fun h2 => next mode (i + 1) (putT t dst v) h2) ∨
                (∃ v h2, Call E.P k as (fun r h' => r = .panic v ∧ h' = h2) h ∧ (∀ t', Q (.panic v) ⟨t', N, D⟩ h2) ∧ next (some i) (i + 1) (putT t dst .undef) h)
              | _ => False
            | op =>
              match aval E (evT E.P (mask (looks ds op guard) t)) op with
              | .new cs v ob => andL cs (lenK h fun hl => force (v hl) fun v => forceH (h ++ [ob]) fun h' => next mode (i + 1) (putT t dst v) h')
              | _ => ∃ v h', OpV E.P ⟨mask (looks ds op guard) t, N, D⟩ h ⟨dst, op, oty, opos, oafter, guard⟩ v h' ∧ force v fun v => forceH h' fun h' => next mode (i + 1) (putT t dst v) h'

def TD (l : List Oper) : Option Nat → Nat → (Nat → AV) → AHeap → Prop :=
  @List.rec Oper (fun _ => Option Nat → Nat → (Nat → AV) → AHeap → Prop) (fun mode _ t h => match mode with
    | none => Q .normal ⟨t, N, D⟩ h
    | some _ => True) (fun o _ next => TDs E N D ds T W A R n0 Q next o) l

end

def tsG (l : List Oper) (vs : Nat → AV) (i : Nat) (t : Nat → AV) : Nat → Nat → AV
  | 0 => t
  | j + 1 => match l[j]? with
    | some o => putT (tsG l vs i t j) o.dst (vs (i + j))
    | none => tsG l vs i t j

theorem tsG_cons (o : Oper) (l : List Oper) (vs : Nat → AV) (i : Nat) (t : Nat → AV) : ∀ j, tsG (o :: l) vs i t (j + 1) = tsG l vs (i + 1) (putT t o.dst (vs i)) j
  | 0 => rfl
  | j + 1 => by
    have ih := tsG_cons o l vs i t j
    rw [tsG, ih]
    simp only [List.getElem?_cons_succ, tsG]
    cases l[j]? with
    | none => rfl
    | some o' => simp only [show i + (j + 1) = i + 1 + j by omega]

theorem tsG_zero (l : List Oper) (vs : Nat → AV) (t : Nat → AV) : ∀ j, tsG l vs 0 t j = tsF l vs t j
  | 0 => rfl
  | j + 1 => by
    simp only [tsG, tsF, tsG_zero l vs t j, Nat.zero_add]
    cases l[j]? <;> rfl

theorem tsG_congr (l : List Oper) {vs vs' : Nat → AV} (i : Nat) (t : Nat → AV) (h : ∀ k, i ≤ k → vs k = vs' k) : ∀ j, tsG l vs i t j = tsG l vs' i t j
  | 0 => rfl
  | j + 1 => by simp only [tsG, tsG_congr l i t h j, h (i + j) (by omega)]

/-- What is known of the i-th operation. -/
structure StX (E : Env) (N : Nat) (D : List (FuncId × List AV)) (ops : Array Oper) (T W A R : List Nat) (n0 : Nat) (Q : AX → AF → AHeap → Prop) (px : Option Nat) (i : Nat) (o : Oper) (t : Nat → AV) (h : AHeap) (v : AV) (h' : AHeap) : Prop where
  keep : W.elem i = false → h' = h
  grow : A.elem i = true → ∀ id, id < n0 → h'[id]? = h[id]?
  alt : (∃ p, px = some p ∧ prec T p i = true) ∨ StepOk E N D ops W A R n0 i o t h v h' ∨ (px = some i ∧ PanicOk E N D ops W Q i o t h)

structure Trace (E : Env) (N : Nat) (D : List (FuncId × List AV)) (ops : Array Oper) (T W A R : List Nat) (n0 : Nat) (Q : AX → AF → AHeap → Prop) (mode px : Option Nat) (l : List Oper) (i : Nat) (t : Nat → AV) (h : AHeap) (vs : Nat → AV) (hs : Nat → AHeap) : Prop where
  start : hs i = h
  keep : ∀ k, W.elem k = false → hs (k + 1) = hs k
  grow : ∀ k, A.elem k = true → ∀ id, id < n0 → (hs (k + 1))[id]? = (hs k)[id]?
  step : ∀ (j : Nat) o, l[j]? = some o → StX E N D ops T W A R n0 Q px (i + j) o (tsG l vs i t j) (hs (i + j)) (vs (i + j)) (hs (i + j + 1))
  fin : px = none → Q .normal ⟨tsG l vs i t l.length, N, D⟩ (hs (i + l.length))
  md : ∀ p, mode = some p → px = some p
  here : mode = none → ∀ p, px = some p → i ≤ p ∧ ∃ o, l[p - i]? = some o ∧ PanicOk E N D ops W Q p o (tsG l vs i t (p - i)) (hs p)

section
variable {E : Env} {N : Nat} {D : List (FuncId × List AV)} {ops : Array Oper} {T W A R : List Nat} {n0 : Nat} {Q : AX → AF → AHeap → Prop}

theorem Trace.cons {mode mode' px : Option Nat} {o : Oper} {l : List Oper} {i : Nat} {t : Nat → AV} {h : AHeap} {v : AV} {h' : AHeap} {vs : Nat → AV} {hs : Nat → AHeap}
    (st : StX E N D ops T W A R n0 Q px i o t h v h') (tr : Trace E N D ops T W A R n0 Q mode' px l (i + 1) (putT t o.dst v) h' vs hs) (hm : mode = mode' ∨ (mode = none ∧ mode' = some i ∧ PanicOk E N D ops W Q i o t h)) :
    ∃ vs hs, Trace E N D ops T W A R n0 Q mode px (o :: l) i t h vs hs := by
  have e0 : (if i = i then v else vs i) = v := if_pos rfl
  have e1 : ∀ m, i < m → (if m ≤ i then h else hs m) = hs m := fun m hm => if_neg (by omega)
  have e2 : ∀ m, i < m → (if m = i then v else vs m) = vs m := fun m hm => if_neg (by omega)
  refine ⟨fun k => if k = i then v else vs k, fun k => if k ≤ i then h else hs k, ?_, ?_, ?_, ?_, ?_, ?_, ?_⟩
  · simp
  · intro k hk
    by_cases h1 : k + 1 ≤ i
    · rw [if_pos h1, if_pos (by omega)]
    · by_cases h2 : k = i
      · subst h2
        rw [if_neg (by omega), if_pos (Nat.le_refl _), tr.start]
        exact st.keep hk
      · rw [if_neg (by omega), if_neg (by omega)]
        exact tr.keep k hk
  · intro k hk id hid
    by_cases h1 : k + 1 ≤ i
    · rw [if_pos h1, if_pos (by omega)]
    · by_cases h2 : k = i
      · subst h2
        rw [if_neg (by omega), if_pos (Nat.le_refl _), tr.start]
        exact st.grow hk id hid
      · rw [if_neg (by omega), if_neg (by omega)]
        exact tr.grow k hk id hid
  · intro j o' ho'
    cases j with
    | zero =>
      simp only [List.getElem?_cons_zero, Option.some.injEq] at ho'
      subst ho'
      dsimp only [Nat.add_zero, tsG]
      rw [if_pos (Nat.le_refl _), if_pos rfl, if_neg (by omega), tr.start]
      exact st
    | succ j =>
      simp only [List.getElem?_cons_succ] at ho'
      have := tr.step j o' ho'
      rw [tsG_cons]
      rw [e0, e1 _ (by omega), e1 _ (by omega), e2 _ (by omega)]
      rw [tsG_congr l (i + 1) _ (vs' := vs) (fun k hk => e2 k (by omega))]
      rw [show i + (j + 1) = i + 1 + j by omega]
      exact this
  · intro hpx
    have := tr.fin hpx
    rw [List.length_cons, tsG_cons]
    rw [e0, e1 _ (by omega)]
    rw [tsG_congr l (i + 1) _ (vs' := vs) (fun k hk => e2 k (by omega))]
    rw [show i + (l.length + 1) = i + 1 + l.length by omega]
    exact this
  · intro p hp
    rcases hm with rfl | ⟨h1, _, _⟩
    · exact tr.md p hp
    · rw [h1] at hp; cases hp
  · intro hmn p hp
    rcases hm with rfl | ⟨_, h2, h3⟩
    · obtain ⟨g1, o', g2, g3⟩ := tr.here hmn p hp
      refine ⟨by omega, o', ?_, ?_⟩
      · rw [show p - i = (p - (i + 1)) + 1 by omega]; simpa using g2
      · rw [show p - i = (p - (i + 1)) + 1 by omega, tsG_cons, e0, e1 _ (by omega), tsG_congr l (i + 1) _ (vs' := vs) (fun k hk => e2 k (by omega))]
        exact g3
    · have := tr.md i h2
      rw [hp] at this
      cases this
      refine ⟨Nat.le_refl _, o, by simp, ?_⟩
      rw [Nat.sub_self, if_pos (Nat.le_refl _)]
      exact h3

theorem StepOk.x {px : Option Nat} {i : Nat} {o : Oper} {t : Nat → AV} {h : AHeap} {v : AV} {h' : AHeap} (st : StepOk E N D ops W A R n0 i o t h v h') : StX E N D ops T W A R n0 Q px i o t h v h' := ⟨st.keep, st.grow, .inr (.inl st)⟩

theorem TD.trace : ∀ {l : List Oper} {mode : Option Nat} {i : Nat} {t : Nat → AV} {h : AHeap}, TD E N D (ops.toList.map (·.dst)) T W A R n0 Q l mode i t h → ∃ px vs hs, Trace E N D ops T W A R n0 Q mode px l i t h vs hs
  | [], none, i, t, h, s => ⟨none, fun _ => .undef, fun _ => h, rfl, fun _ _ => rfl, fun _ _ _ _ => rfl, fun j o ho => by simp at ho, fun _ => s, fun _ h => h, fun _ _ h => by cases h⟩
  | [], some p, i, t, h, s => ⟨some p, fun _ => .undef, fun _ => h, rfl, fun _ _ => rfl, fun _ _ _ _ => rfl, fun j o ho => by simp at ho, fun h => (by cases h), fun _ h => h, fun h => by cases h⟩
  | ⟨dst, op, oty, opos, oafter, guard⟩ :: l, mode, i, t, h, s => by
    change TDs E N D (ops.toList.map (·.dst)) T W A R n0 Q (TD E N D (ops.toList.map (·.dst)) T W A R n0 Q l) ⟨dst, op, oty, opos, oafter, guard⟩ mode i t h at s
    have go : ∀ {v h'}, StepOk E N D ops W A R n0 i ⟨dst, op, oty, opos, oafter, guard⟩ t h v h' → TD E N D (ops.toList.map (·.dst)) T W A R n0 Q l mode (i + 1) (putT t dst v) h' →
        ∃ px vs hs, Trace E N D ops T W A R n0 Q mode px (⟨dst, op, oty, opos, oafter, guard⟩ :: l) i t h vs hs := by
      intro v h' st s
      obtain ⟨px, vs, hs, tr⟩ := TD.trace s
      obtain ⟨vs', hs', tr'⟩ := Trace.cons (mode := mode) (o := ⟨dst, op, oty, opos, oafter, guard⟩) st.x tr (.inl rfl)
      exact ⟨px, vs', hs', tr'⟩
    unfold TDs at s
    dsimp only at s
    split at s
    · rename_i hskip
      obtain ⟨px, vs, hs, tr⟩ := TD.trace s
      have hp : ∃ p, mode = some p ∧ prec T p i = true := by
        cases mode with
        | none => cases hskip
        | some p => exact ⟨p, rfl, hskip⟩
      obtain ⟨p, hp, hpr⟩ := hp
      obtain ⟨vs', hs', tr'⟩ := Trace.cons (mode := mode) (o := ⟨dst, op, oty, opos, oafter, guard⟩) ⟨fun _ => rfl, fun _ _ _ => rfl, .inl ⟨p, tr.md p hp, hpr⟩⟩ tr (.inl rfl)
      exact ⟨px, vs', hs', tr'⟩
    split at s
    · exact s.elim
    rename_i hdb
    split at s
    · exact s.elim
    · rename_i hg
      exact go ⟨hdb, fun _ => rfl, fun _ _ _ => rfl, .inl ⟨hg, rfl, rfl⟩⟩ s
    · rename_i hg
      have evm : ∀ x, evT E.P (mask (looks (ops.toList.map (·.dst)) op guard) t) x = (AF.mk (mask (looks (ops.toList.map (·.dst)) op guard) t) N D).ev E.P x := evT_ev E _ N D
      have evf : evT E.P (mask (looks (ops.toList.map (·.dst)) op guard) t) = (AF.mk (mask (looks (ops.toList.map (·.dst)) op guard) t) N D).ev E.P := funext evm
      split at s
      · rename_i htch
        split at s
        · rename_i cs v he
          obtain ⟨c1, s⟩ := andL_all s
          rw [force_eq] at s
          rw [evf] at he
          have hw : ∀ g, OpW E.P ⟨mask (looks (ops.toList.map (·.dst)) op guard) t, N, D⟩ g ⟨dst, op, oty, opos, oafter, guard⟩ v g := fun g => OpW.of_V (avalL_val he c1)
          exact go ⟨hdb, fun _ => rfl, fun _ _ _ => rfl, .inr ⟨hg, fun _ => hw, hw h, fun _ _ _ g _ => hw g⟩⟩ s
        · split at s
          · rename_i ty x y _
            split at s
            · rename_i cells len k n ti hx hy hti
              split at s
              · rename_i e hdt
                split at s
                · rename_i te hte
                  split at s
                  · exact s.elim
                  · rename_i hne
                    obtain ⟨hcl, h0, h1, el, hel, s⟩ := s
                    subst hel
                    have g1 := Env.at hti
                    have g2 := Env.at hte
                    obtain ⟨d, hd'⟩ := atOf_some (P := E.P) (t := e) (by rw [← g2.1]; exact hne)
                    rw [evm] at hx hy
                    have hw : ∀ g, OpW E.P ⟨mask (looks (ops.toList.map (·.dst)) (.indexAddr ty x y) guard) t, N, D⟩ g ⟨dst, .indexAddr ty x y, oty, opos, oafter, guard⟩ (.ip ((cells.drop (n.toNat * te.size)).take te.size)) g :=
                      fun g => OpW.of_V (OpV.indexAddrIm rfl (atOf_sl (by rw [← g1.1]; exact hdt)) hd' g2.2.1.symm hcl hx hy h0 h1)
                    exact go ⟨hdb, fun _ => rfl, fun _ _ _ => rfl, .inr ⟨hg, fun _ => hw, hw h, fun _ _ _ g _ => hw g⟩⟩ s
                · exact s.elim
              · exact s.elim
            · exact s.elim
          · obtain ⟨v, hv, s⟩ := s
            rw [force_eq] at s
            have hw := fun g => OpW.of_V (hv g)
            exact go ⟨hdb, fun _ => rfl, fun _ _ _ => rfl, .inr ⟨hg, fun _ => hw, hw h, fun _ _ _ g _ => hw g⟩⟩ s
      · rename_i htch
        have next : ∀ {v h'}, (W.elem i = false → h' = h) → (A.elem i = true → ∀ id, id < n0 → h'[id]? = h[id]?) → (isLoad op = true → W.elem i = false → R.elem i = true → ∀ g, (∀ id, id < n0 → g[id]? = h[id]?) → OpW E.P ⟨mask (looks (ops.toList.map (·.dst)) op guard) t, N, D⟩ g ⟨dst, op, oty, opos, oafter, guard⟩ v g) →
            OpW E.P ⟨mask (looks (ops.toList.map (·.dst)) op guard) t, N, D⟩ h ⟨dst, op, oty, opos, oafter, guard⟩ v h' → TD E N D (ops.toList.map (·.dst)) T W A R n0 Q l mode (i + 1) (putT t dst v) h' →
            ∃ px vs hs, Trace E N D ops T W A R n0 Q mode px (⟨dst, op, oty, opos, oafter, guard⟩ :: l) i t h vs hs := by
          intro v h' hk hgr hrl hw s
          exact go ⟨hdb, hk, hgr, .inr ⟨hg, (fun e => by rw [show touches op = false from e] at htch; cases htch), hw, hrl⟩⟩ s
        split at s
        · rename_i hwi
          split at s
          · rename_i ty x
            split at s
            · rename_i id off ti hx hti
              rw [evm] at hx
              split at s
              · rename_i hre
                split at s
                · rename_i ob ho
                  have ld : ∀ {v}, ob.st ≠ .dead → aldT ti ob.cells off = some v → TD E N D (ops.toList.map (·.dst)) T W A R n0 Q l mode (i + 1) (putT t dst v) h →
                      ∃ px vs hs, Trace E N D ops T W A R n0 Q mode px (⟨dst, .load ty x, oty, opos, oafter, guard⟩ :: l) i t h vs hs := by
                    intro v hd hv s
                    refine next (fun _ => rfl) (fun _ _ _ => rfl) (fun _ _ hr g hgg => OpW.of_V (OpV.load rfl hx (aldT_ald hti (h := g) (by
                      rw [hr] at hre
                      rw [hgg id (Nat.le_of_ble_eq_true hre)]; exact ho) hd hv))) (OpW.of_V (OpV.load rfl hx (aldT_ald hti ho hd hv))) s
                  split at s
                  · exact s.elim
                  · rename_i hst
                    split at s
                    · rename_i v hv
                      rw [force_eq] at s
                      exact ld (by rw [hst]; exact fun e => by cases e) hv s
                    · exact s.elim
                  · rename_i hst
                    obtain ⟨v, hv, s⟩ := s
                    rw [force_eq] at s
                    exact ld (by rw [hst]; exact fun e => by cases e) hv s
                  · rename_i hst
                    obtain ⟨v, hv, s⟩ := s
                    rw [force_eq] at s
                    exact ld (by rw [hst]; exact fun e => by cases e) hv s
                · exact s.elim
              · exact s.elim
            · rename_i cells ti hx hti
              rw [evm] at hx
              split at s
              · rename_i v hv
                rw [force_eq] at s
                exact next (fun _ => rfl) (fun _ _ _ => rfl) (fun _ _ _ g _ => OpW.of_V (OpV.loadI rfl hx (aldT_aldI hti hv))) (OpW.of_V (OpV.loadI rfl hx (aldT_aldI hti hv))) s
              · exact s.elim
            · exact s.elim
          · rename_i fo args tys
            split at s
            · rename_i k first caps hf
              rw [forceL_eq] at s
              obtain ⟨v, hc, s⟩ := s
              rw [force_eq] at s
              rw [evm] at hf
              rw [evf] at hc
              exact next (fun _ => rfl) (fun _ _ _ => rfl) (fun e => by cases e) (OpW.of_call rfl hf hc.sc.conv) s
            · exact s.elim
          · exact s.elim
        · rename_i hwi
          have hwt : W.elem i = false → ∀ {h' : AHeap}, h' = h := fun e => by rw [hwi] at e; cases e
          have hnl : ∀ {v}, isLoad op = true → W.elem i = false → R.elem i = true → ∀ g, (∀ id, id < n0 → g[id]? = h[id]?) → OpW E.P ⟨mask (looks (ops.toList.map (·.dst)) op guard) t, N, D⟩ g ⟨dst, op, oty, opos, oafter, guard⟩ v g := fun _ e => by rw [hwi] at e; cases e
          split at s
          · exact s.elim
          split at s
          · split at s
            · rename_i cs v ob he
              split at s
              · rename_i hn0
                have hn0 := Nat.le_of_ble_eq_true hn0
                obtain ⟨c1, s⟩ := andL_all s
                rw [lenK_eq, force_eq, forceH_eq] at s
                rw [evf] at he
                exact next (fun e => hwt e) (fun _ id hid => by rw [List.getElem?_append_left (by omega)]) hnl (OpW.of_V (aval_new he c1)) s
              · exact s.elim
            · exact s.elim
          rename_i hai
          have hga : ∀ {h' : AHeap}, A.elem i = true → ∀ id, id < n0 → h'[id]? = h[id]? := fun e => by rw [hai] at e; cases e
          split at s
          · rename_i ty x y
            split at s
            · rename_i id off cs ti hx hy hti
              rw [forceL_eq] at s
              split at s
              · rename_i hb
                simp only [Bool.and_eq_true] at hb
                have ht := Env.at hti
                obtain ⟨d, hdu⟩ := atOf_some (P := E.P) (t := ty) (by
                  rw [← ht.1]; intro e; rw [e] at hb; exact absurd hb.2 (by simp))
                rw [evm] at hx hy
                split at s
                · rename_i ob ho
                  split at s
                  · rename_i hst
                    split at s
                    · rename_i hle
                      rw [forceH_eq] at s
                      have hOp := OpV.store (P := E.P) (a := ⟨_, N, D⟩) (o := ⟨dst, .store ty x y, oty, opos, oafter, guard⟩) (h := h) rfl hdu hx ho (by rw [hst]; rfl) (fun e => by rw [hst] at e; cases e) hy (.inl rfl)
                        (by rw [← ht.2.1]; exact Nat.eq_of_beq_eq_true hb.1.1) hb.1.2 (Nat.le_of_ble_eq_true hle)
                      rw [hst] at hOp
                      exact next (fun e => hwt e) hga hnl (OpW.of_V hOp) s
                    · exact s.elim
                  · rename_i hst
                    rw [forceL_eq] at s
                    split at s
                    · rename_i hfl
                      simp only [Bool.and_eq_true] at hfl
                      obtain ⟨hle, s⟩ := s
                      rw [forceH_eq] at s
                      have hOp := OpV.store (P := E.P) (a := ⟨_, N, D⟩) (o := ⟨dst, .store ty x y, oty, opos, oafter, guard⟩) (h := h) (cs := nilL cs) rfl hdu hx ho (by rw [hst]; rfl) (fun _ => hfl.1.1) hy (.inr rfl)
                        (by rw [← ht.2.1]; exact Nat.eq_of_beq_eq_true hfl.1.2) hfl.2 hle
                      rw [hst] at hOp
                      exact next (fun e => hwt e) hga hnl (OpW.of_V hOp) s
                    · exact s.elim
                  · exact s.elim
                · exact s.elim
              · exact s.elim
            · exact s.elim
          · rename_i fo args tys
            split at s
            · rename_i k first caps hf
              rw [forceL_eq] at s
              rw [evm] at hf
              rw [evf] at s
              rcases s with ⟨v, h2, hc, s⟩ | ⟨v, h2, hc, hq, s⟩
              · rw [force_eq, forceH_eq] at s
                exact next (fun e => hwt e) hga hnl (OpW.of_call rfl hf hc.sc.conv) s
              · obtain ⟨px, vs, hs, tr⟩ := TD.trace s
                have pk : PanicOk E N D ops W Q i ⟨dst, .call { callee := .value fo, args := args, argTypes := tys }, oty, opos, oafter, guard⟩ t h := ⟨hwi, hg, v, h2, OpP.of_call rfl hf hc.sc.conv, hq⟩
                obtain ⟨vs', hs', tr'⟩ := Trace.cons (mode := none) (o := ⟨dst, .call { callee := .value fo, args := args, argTypes := tys }, oty, opos, oafter, guard⟩) ⟨fun _ => rfl, fun _ _ _ => rfl, .inr (.inr ⟨tr.md i rfl, pk⟩)⟩ tr (.inr ⟨rfl, rfl, pk⟩)
                exact ⟨px, vs', hs', tr'⟩
            · exact s.elim
          · split at s
            · rename_i cs v ob he
              obtain ⟨c1, s⟩ := andL_all s
              rw [lenK_eq, force_eq, forceH_eq] at s
              rw [evf] at he
              exact next (fun e => hwt e) hga hnl (OpW.of_V (aval_new he c1)) s
            · obtain ⟨v, h', hv, s⟩ := s
              rw [force_eq, forceH_eq] at s
              exact next (fun e => hwt e) hga hnl (OpW.of_V hv) s
end

/-- A region of open order: T tells who is ahead of whom, W who writes. -/
theorem Rest.draw {m : Nat} {E : Env} (hm : E.P.follows .mixedOrders = true) {id : Nat} {ops : Array Oper} {Q : AX → AF → AHeap → Prop} {N : Nat} {D : List (FuncId × List AV)} {t : Nat → AV} {h : AHeap} (T W A R : List Nat) (n0 : Nat) (hok : dok ops.toList T W A R = true) (hlim : W.all (fun k => decide (k < ops.size)) = true)
    (s : TD E N D (ops.toList.map (·.dst)) T W A R n0 Q ops.toList none 0 t h) : Rest m E.P (.region id ops true) Q ⟨t, N, D⟩ h := by
  refine ⟨fun κ act w hm0 ha hh => ?_⟩
  obtain ⟨px, vs, hs, tr⟩ := TD.trace s
  refine wp_region_any hm ?_
  have hst : ∀ i o, ops[i]? = some o → StX E N D ops T W A R n0 Q px i o (tsF ops.toList vs t i) (hs i) (vs i) (hs (i + 1)) := by
    intro i o ho
    have := tr.step i o (by simpa using ho)
    rw [tsG_zero] at this
    simpa using this
  have hq : px = none → Q .normal ⟨tsF ops.toList vs t ops.size, N, D⟩ (hs ops.size) := by
    intro hpx
    have := tr.fin hpx
    rw [tsG_zero] at this
    simpa using this
  have hpx : ∀ p, px = some p → p < ops.size ∧ ∀ o, ops[p]? = some o → PanicOk E N D ops W Q p o (tsF ops.toList vs t p) (hs p) := by
    intro p hp
    obtain ⟨_, o, h2, h3⟩ := tr.here rfl p hp
    simp only [Nat.sub_zero] at h2 h3
    rw [tsG_zero] at h3
    have h4 : ops[p]? = some o := by simpa using h2
    refine ⟨(Array.getElem?_eq_some_iff.1 h4).1, fun o' ho' => ?_⟩
    rw [h4] at ho'; cases ho'
    exact h3
  have hF : ∀ n, fdF ops.toList vs t (fun _ => false) n = t := by
    intro n
    induction n with
    | zero => rfl
    | succ n ih =>
      simp only [fdF, ih]
      cases ops.toList[n]? <;> simp
  have hH : ∀ n, hdF hs W (fun _ => false) n = h := by
    intro n
    induction n with
    | zero => exact tr.start
    | succ n ih => simp only [hdF, ih]; simp
  refine draw_any (Dok.of hok) tr.keep tr.grow (fun k hk => by have := List.all_eq_true.1 hlim k (List.elem_iff.1 hk); simpa using this) px (fun i o ho => (hst i o ho).alt) hpx hq hm0 ops.size (Array.replicate ops.size false) (fun _ => false) (fun _ _ => rfl) (by simp) (fun i hi => ?_) (fun _ _ => rfl) (fun _ _ _ _ _ e => by cases e) (undone_all _) κ act _ ?_ ?_ ?_
  · rw [Array.getD_eq_getD_getElem?, Array.getElem?_replicate, if_pos hi]; rfl
  · rw [hF]; exact ha
  · rw [hH]; exact hh.world rfl
  · rw [hH]; exact ⟨.refl _, rfl, rfl, rfl, Nat.le_refl _, fun _ _ _ => rfl, fun _ h => .inl h, fun _ _ h => .inl h⟩

/-- Who is ahead of whom: the closure, as bits. -/
def closeL (ops : List Oper) : List Nat :=
  ops.foldl (fun T o => T ++ [o.after.toList.foldl (fun m e => bif Region.binds .any e then m ||| (1 <<< e.on) ||| T.getD e.on 0 else m) 0]) []

theorem Rest.drawW {m : Nat} {E : Env} (W : List Nat) (hm : E.P.follows .mixedOrders = true) {id : Nat} {ops : Array Oper} {Q : AX → AF → AHeap → Prop} {N : Nat} {D : List (FuncId × List AV)} {t : Nat → AV} {h : AHeap} (hok : (dok ops.toList (closeL ops.toList) W [] [] && W.all (fun k => decide (k < ops.size))) = true)
    (s : TD E N D (ops.toList.map (·.dst)) (closeL ops.toList) W [] [] 0 Q ops.toList none 0 t h) : Rest m E.P (.region id ops true) Q ⟨t, N, D⟩ h := by
  rw [Bool.and_eq_true] at hok
  exact Rest.draw hm (closeL ops.toList) W [] [] 0 hok.1 hok.2 s

/-- Where new memory is made in no order with what reads the old one: A makes, R reads. -/
theorem Rest.drawA {m : Nat} {E : Env} (W A R : List Nat) (hm : E.P.follows .mixedOrders = true) {id : Nat} {ops : Array Oper} {Q : AX → AF → AHeap → Prop} {N : Nat} {D : List (FuncId × List AV)} {t : Nat → AV} {h : AHeap} (hok : (dok ops.toList (closeL ops.toList) W A R && W.all (fun k => decide (k < ops.size))) = true)
    (s : TD E N D (ops.toList.map (·.dst)) (closeL ops.toList) W A R h.length Q ops.toList none 0 t h) : Rest m E.P (.region id ops true) Q ⟨t, N, D⟩ h := by
  rw [Bool.and_eq_true] at hok
  exact Rest.draw hm (closeL ops.toList) W A R h.length hok.1 hok.2 s

end Go.S2
