/- Regions of open order, computed in the text's order. -/
import Derived.Test.YtabobghngfmilaaDoorSimK
set_option linter.unusedSimpArgs false
set_option linter.unusedVariables false
namespace Go.Sim

/-- len, and what aval has. -/
def avalL (E : Env) (ev : Operand → AV) (o : Op) : OR :=
  match o with
  | .call { callee := .builtin .len, args := args, argTypes := tys } =>
    match args.toList, tys.toList with
    | [x], [ty] =>
      match E.ty ty, ev x with
      | some ti, .s s => match ti.d with
        | .str => .val [] (.i .i64 s.length)
        | _ => .no
      | some ti, .sl _ len _ _ => match ti.d with
        | .sl _ => .val [] (.i .i64 len)
        | _ => .no
      | _, _ => .no
    | _, _ => .no
  | o => aval E ev o

theorem avalL_val {E : Env} {a : AF} {h : AHeap} {o : Oper} {cs : List Prop} {v : AV} (he : avalL E (a.ev E.P) o.op = .val cs v) (hc : AllP cs) : OpV E.P a h o v h := by
  unfold avalL at he
  split at he
  · rename_i args tys hop
    split at he
    · rename_i x ty hx0 ht0
      have e1 : args = #[x] := by rw [← Array.toArray_toList (xs := args), hx0]
      have e2 : tys = #[ty] := by rw [← Array.toArray_toList (xs := tys), ht0]
      subst e1; subst e2
      split at he
      · rename_i ti str hti hx
        split at he
        · rename_i hdt
          cases he
          exact OpV.lenStr hop (atOf_str (by rw [← (Env.at hti).1]; exact hdt)) hx
        · cases he
      · rename_i ti ad len esz tg hti hx
        split at he
        · rename_i e hdt
          cases he
          exact OpV.lenSl hop (atOf_sl (by rw [← (Env.at hti).1]; exact hdt)) hx
        · cases he
      · cases he
    · cases he
  · exact aval_val he hc

section
variable (E : Env) (N : Nat) (D : List (FuncId × List AV)) (ds : List (Option Tmp)) (W A R : List Nat) (n0 : Nat) (K : (Nat → AV) → AHeap → Prop)

def TDs (next : Nat → (Nat → AV) → AHeap → Prop) (o : Oper) (i : Nat) (t : Nat → AV) (h : AHeap) : Prop :=
  match o with
  | ⟨dst, op, oty, opos, oafter, guard⟩ =>
    match dstB N dst with
    | false => False
    | true =>
      match gval ds (mask (looks ds op guard) t) guard with
      | none => False
      | some false => next (i + 1) (putT t dst (.tu [])) h
      | some true =>
        match touches op with
        | false =>
          match avalL E (evT E.P (mask (looks ds op guard) t)) op with
          | .val cs v => andL cs (force v fun v => next (i + 1) (putT t dst v) h)
          | _ => ∃ v, (∀ g, OpV E.P ⟨mask (looks ds op guard) t, N, D⟩ g ⟨dst, op, oty, opos, oafter, guard⟩ v g) ∧ force v fun v => next (i + 1) (putT t dst v) h
        | true =>
          match W.elem i with
          | false =>
            match op with
            | .load ty x =>
              match evT E.P (mask (looks ds op guard) t) x with
              | .p (some (id, off)) =>
                match R.elem i with
                | false => ∃ v, ald E.P h ty id off = some v ∧ force v fun v => next (i + 1) (putT t dst v) h
                | true => id < n0 ∧ ∃ v, ald E.P h ty id off = some v ∧ force v fun v => next (i + 1) (putT t dst v) h
              | _ => False
            | .call { callee := .value fo, args := args, argTypes := _ } =>
              match evT E.P (mask (looks ds op guard) t) fo with
              | .fn (.func k) first caps => forceL (first ++ args.toList.map (evT E.P (mask (looks ds op guard) t)) ++ caps) fun as =>
                ∃ v, Call E.P k as (fun r h' => r = .ret v ∧ h' = h) h ∧ force v fun v => next (i + 1) (putT t dst v) h
              | _ => False
            | _ => False
          | true =>
            match A.elem i with
            | true =>
              match aval E (evT E.P (mask (looks ds op guard) t)) op with
              | .new cs v ob => n0 ≤ h.length ∧ andL cs (force (v h.length) fun v => next (i + 1) (putT t dst v) (h ++ [ob]))
              | _ => False
            | false =>
            match op with
            | .store ty x y =>
              match evT E.P (mask (looks ds op guard) t) x, (evT E.P (mask (looks ds op guard) t) y).cells, E.ty ty with
              | .p (some (id, off)), some vs, some ti => forceL vs fun vs =>
                match Nat.beq vs.length ti.size && vs.all AV.one && (match ti.d with | .none => false | _ => true) with
                | true => ∃ ob, h[id]? = some ob ∧ ob.st = .rw ∧ off + vs.length ≤ ob.cells.length ∧ next (i + 1) (putT t dst (.tu [])) (h.set id { ob with cells := splice ob.cells off vs })
                | false => False
              | _, _, _ => False
            | .call { callee := .value fo, args := args, argTypes := _ } =>
              match evT E.P (mask (looks ds op guard) t) fo with
              | .fn (.func k) first caps => forceL (first ++ args.toList.map (evT E.P (mask (looks ds op guard) t)) ++ caps) fun as =>
                ∃ v h2, Call E.P k as (fun r h' => r = .ret v ∧ h' = h2) h ∧ force v fun v => next (i + 1) (putT t dst v) h2
              | _ => False
            | op =>
              match aval E (evT E.P (mask (looks ds op guard) t)) op with
              | .new cs v ob => andL cs (force (v h.length) fun v => next (i + 1) (putT t dst v) (h ++ [ob]))
              | _ => ∃ v h', OpV E.P ⟨mask (looks ds op guard) t, N, D⟩ h ⟨dst, op, oty, opos, oafter, guard⟩ v h' ∧ force v fun v => next (i + 1) (putT t dst v) h'


def TD (l : List Oper) : Nat → (Nat → AV) → AHeap → Prop :=
  @List.rec Oper (fun _ => Nat → (Nat → AV) → AHeap → Prop) (fun _ t h => K t h) (fun o _ next => TDs E N D ds W A R n0 next o) l

end

def tsG (l : List Oper) (vs : Nat → AV) (i : Nat) (t : Nat → AV) : Nat → Nat → AV
  | 0 => t
  | j + 1 => match l[j]? with
    | some o => putT (tsG l vs i t j) o.dst (vs (i + j))
    | none => tsG l vs i t j

theorem tsG_cons (o : Oper) (l : List Oper) (vs : Nat → AV) (i : Nat) (t : Nat → AV) : ∀ j, tsG (o :: l) vs i t (j + 1) = tsG l vs (i + 1) (putT t o.dst (vs i)) j
  | 0 => rfl
  | j + 1 => by
    have ih := tsG_cons o l vs i t j
    rw [tsG, ih]
    simp only [List.getElem?_cons_succ, tsG]
    cases l[j]? with
    | none => rfl
    | some o' => simp only [show i + (j + 1) = i + 1 + j by omega]

theorem tsG_zero (l : List Oper) (vs : Nat → AV) (t : Nat → AV) : ∀ j, tsG l vs 0 t j = tsF l vs t j
  | 0 => rfl
  | j + 1 => by
    simp only [tsG, tsF, tsG_zero l vs t j, Nat.zero_add]
    cases l[j]? <;> rfl

theorem tsG_congr (l : List Oper) {vs vs' : Nat → AV} (i : Nat) (t : Nat → AV) (h : ∀ k, i ≤ k → vs k = vs' k) : ∀ j, tsG l vs i t j = tsG l vs' i t j
  | 0 => rfl
  | j + 1 => by simp only [tsG, tsG_congr l i t h j, h (i + j) (by omega)]

structure Trace (E : Env) (N : Nat) (D : List (FuncId × List AV)) (ops : Array Oper) (W A R : List Nat) (n0 : Nat) (K : (Nat → AV) → AHeap → Prop) (l : List Oper) (i : Nat) (t : Nat → AV) (h : AHeap) (vs : Nat → AV) (hs : Nat → AHeap) : Prop where
  start : hs i = h
  keep : ∀ k, W.elem k = false → hs (k + 1) = hs k
  grow : ∀ k, A.elem k = true → ∀ id, id < n0 → (hs (k + 1))[id]? = (hs k)[id]?
  step : ∀ (j : Nat) o, l[j]? = some o → StepOk E N D ops W A R n0 (i + j) o (tsG l vs i t j) (hs (i + j)) (vs (i + j)) (hs (i + j + 1))
  fin : K (tsG l vs i t l.length) (hs (i + l.length))

theorem Trace.cons {E : Env} {N : Nat} {D : List (FuncId × List AV)} {ops : Array Oper} {W A R : List Nat} {n0 : Nat} {K : (Nat → AV) → AHeap → Prop} {o : Oper} {l : List Oper} {i : Nat} {t : Nat → AV} {h : AHeap} {v : AV} {h' : AHeap} {vs : Nat → AV} {hs : Nat → AHeap}
    (st : StepOk E N D ops W A R n0 i o t h v h') (tr : Trace E N D ops W A R n0 K l (i + 1) (putT t o.dst v) h' vs hs) : ∃ vs hs, Trace E N D ops W A R n0 K (o :: l) i t h vs hs := by
  have e0 : (if i = i then v else vs i) = v := if_pos rfl
  have e1 : ∀ m, i < m → (if m ≤ i then h else hs m) = hs m := fun m hm => if_neg (by omega)
  have e2 : ∀ m, i < m → (if m = i then v else vs m) = vs m := fun m hm => if_neg (by omega)
  refine ⟨fun k => if k = i then v else vs k, fun k => if k ≤ i then h else hs k, ?_, ?_, ?_, ?_, ?_⟩
  · simp
  · intro k hk
    by_cases h1 : k + 1 ≤ i
    · rw [if_pos h1, if_pos (by omega)]
    · by_cases h2 : k = i
      · subst h2
        rw [if_neg (by omega), if_pos (Nat.le_refl _), tr.start]
        exact st.keep hk
      · rw [if_neg (by omega), if_neg (by omega)]
        exact tr.keep k hk
  · intro k hk id hid
    by_cases h1 : k + 1 ≤ i
    · rw [if_pos h1, if_pos (by omega)]
    · by_cases h2 : k = i
      · subst h2
        rw [if_neg (by omega), if_pos (Nat.le_refl _), tr.start]
        exact st.grow hk id hid
      · rw [if_neg (by omega), if_neg (by omega)]
        exact tr.grow k hk id hid
  · intro j o' ho'
    cases j with
    | zero =>
      simp only [List.getElem?_cons_zero, Option.some.injEq] at ho'
      subst ho'
      dsimp only [Nat.add_zero, tsG]
      rw [if_pos (Nat.le_refl _), if_pos rfl, if_neg (by omega), tr.start]
      exact st
    | succ j =>
      simp only [List.getElem?_cons_succ] at ho'
      have := tr.step j o' ho'
      rw [tsG_cons]
      rw [e0, e1 _ (by omega), e1 _ (by omega), e2 _ (by omega)]
      rw [tsG_congr l (i + 1) _ (vs' := vs) (fun k hk => e2 k (by omega))]
      rw [show i + (j + 1) = i + 1 + j by omega]
      exact this
  · have := tr.fin
    rw [List.length_cons, tsG_cons]
    rw [e0, e1 _ (by omega)]
    rw [tsG_congr l (i + 1) _ (vs' := vs) (fun k hk => e2 k (by omega))]
    rw [show i + (l.length + 1) = i + 1 + l.length by omega]
    exact this

theorem TD.trace {E : Env} {N : Nat} {D : List (FuncId × List AV)} {ops : Array Oper} {W A R : List Nat} {n0 : Nat} {K : (Nat → AV) → AHeap → Prop} :
    ∀ {l : List Oper} {i : Nat} {t : Nat → AV} {h : AHeap}, TD E N D (ops.toList.map (·.dst)) W A R n0 K l i t h → ∃ vs hs, Trace E N D ops W A R n0 K l i t h vs hs
  | [], i, t, h, s => ⟨fun _ => .undef, fun _ => h, rfl, fun _ _ => rfl, fun _ _ _ _ => rfl, fun j o ho => by simp at ho, s⟩
  | ⟨dst, op, oty, opos, oafter, guard⟩ :: l, i, t, h, s => by
    change TDs E N D (ops.toList.map (·.dst)) W A R n0 (TD E N D (ops.toList.map (·.dst)) W A R n0 K l) ⟨dst, op, oty, opos, oafter, guard⟩ i t h at s
    unfold TDs at s
    dsimp only at s
    split at s
    · exact s.elim
    rename_i hdb
    split at s
    · exact s.elim
    · rename_i hg
      obtain ⟨vs, hs, tr⟩ := TD.trace s
      exact Trace.cons (o := ⟨dst, op, oty, opos, oafter, guard⟩) ⟨hdb, fun _ => rfl, fun _ _ _ => rfl, .inl ⟨hg, rfl, rfl⟩⟩ tr
    · rename_i hg
      have evm : ∀ x, evT E.P (mask (looks (ops.toList.map (·.dst)) op guard) t) x = (AF.mk (mask (looks (ops.toList.map (·.dst)) op guard) t) N D).ev E.P x := evT_ev E _ N D
      have evf : evT E.P (mask (looks (ops.toList.map (·.dst)) op guard) t) = (AF.mk (mask (looks (ops.toList.map (·.dst)) op guard) t) N D).ev E.P := funext evm
      split at s
      · rename_i htch
        split at s
        · rename_i cs v he
          obtain ⟨c1, s⟩ := andL_all s
          rw [force_eq] at s
          obtain ⟨vs, hs, tr⟩ := TD.trace s
          rw [evf] at he
          have hw : ∀ g, OpW E.P ⟨mask (looks (ops.toList.map (·.dst)) op guard) t, N, D⟩ g ⟨dst, op, oty, opos, oafter, guard⟩ v g := fun g => OpW.of_V (avalL_val he c1)
          exact Trace.cons (o := ⟨dst, op, oty, opos, oafter, guard⟩) ⟨hdb, fun _ => rfl, fun _ _ _ => rfl, .inr ⟨hg, fun _ => hw, hw h, fun _ _ _ g _ => hw g⟩⟩ tr
        · obtain ⟨v, hv, s⟩ := s
          rw [force_eq] at s
          obtain ⟨vs, hs, tr⟩ := TD.trace s
          have hw : ∀ g, OpW E.P ⟨mask (looks (ops.toList.map (·.dst)) op guard) t, N, D⟩ g ⟨dst, op, oty, opos, oafter, guard⟩ v g := fun g => OpW.of_V (hv g)
          exact Trace.cons (o := ⟨dst, op, oty, opos, oafter, guard⟩) ⟨hdb, fun _ => rfl, fun _ _ _ => rfl, .inr ⟨hg, fun _ => hw, hw h, fun _ _ _ g _ => hw g⟩⟩ tr
      · rename_i htch
        have next : ∀ {v h'}, (W.elem i = false → h' = h) → (A.elem i = true → ∀ id, id < n0 → h'[id]? = h[id]?) → (isLoad op = true → W.elem i = false → R.elem i = true → ∀ g, (∀ id, id < n0 → g[id]? = h[id]?) → OpW E.P ⟨mask (looks (ops.toList.map (·.dst)) op guard) t, N, D⟩ g ⟨dst, op, oty, opos, oafter, guard⟩ v g) → OpW E.P ⟨mask (looks (ops.toList.map (·.dst)) op guard) t, N, D⟩ h ⟨dst, op, oty, opos, oafter, guard⟩ v h' → TD E N D (ops.toList.map (·.dst)) W A R n0 K l (i + 1) (putT t dst v) h' →
            ∃ vs hs, Trace E N D ops W A R n0 K (⟨dst, op, oty, opos, oafter, guard⟩ :: l) i t h vs hs := by
          intro v h' hk hgr hrl hw s
          obtain ⟨vs, hs, tr⟩ := TD.trace s
          exact Trace.cons (o := ⟨dst, op, oty, opos, oafter, guard⟩) ⟨hdb, hk, hgr, .inr ⟨hg, (fun e => by rw [show touches op = false from e] at htch; cases htch), hw, hrl⟩⟩ tr
        split at s
        · rename_i hwi
          split at s
          · rename_i ty x
            split at s
            · rename_i id off hx
              rw [evm] at hx
              split at s
              · rename_i hre
                obtain ⟨v, hv, s⟩ := s
                rw [force_eq] at s
                exact next (fun _ => rfl) (fun _ _ _ => rfl) (fun _ _ e => by rw [hre] at e; cases e) (OpW.of_V (OpV.load rfl hx hv)) s
              · obtain ⟨hid, v, hv, s⟩ := s
                rw [force_eq] at s
                refine next (fun _ => rfl) (fun _ _ _ => rfl) (fun _ _ _ g hgg => OpW.of_V (OpV.load rfl hx ?_)) (OpW.of_V (OpV.load rfl hx hv)) s
                rw [← hv]
                unfold ald
                rw [hgg id hid]
            · exact s.elim
          · rename_i fo args tys
            split at s
            · rename_i k first caps hf
              rw [forceL_eq] at s
              obtain ⟨v, hc, s⟩ := s
              rw [force_eq] at s
              rw [evm] at hf
              rw [evf] at hc
              exact next (fun _ => rfl) (fun _ _ _ => rfl) (fun e => by cases e) (OpW.of_call rfl hf hc.sc) s
            · exact s.elim
          · exact s.elim
        · rename_i hwi
          have hwt : W.elem i = false → ∀ {h' : AHeap}, h' = h := fun e => by rw [hwi] at e; cases e
          have hnl : ∀ {v}, isLoad op = true → W.elem i = false → R.elem i = true → ∀ g, (∀ id, id < n0 → g[id]? = h[id]?) → OpW E.P ⟨mask (looks (ops.toList.map (·.dst)) op guard) t, N, D⟩ g ⟨dst, op, oty, opos, oafter, guard⟩ v g := fun _ e => by rw [hwi] at e; cases e
          split at s
          · split at s
            · rename_i cs v ob he
              obtain ⟨hn0, s⟩ := s
              obtain ⟨c1, s⟩ := andL_all s
              rw [force_eq] at s
              rw [evf] at he
              exact next (fun e => hwt e) (fun _ id hid => by rw [List.getElem?_append_left (by omega)]) hnl (OpW.of_V (aval_new he c1)) s
            · exact s.elim
          rename_i hai
          have hga : ∀ {h' : AHeap}, A.elem i = true → ∀ id, id < n0 → h'[id]? = h[id]? := fun e => by rw [hai] at e; cases e
          split at s
          · rename_i ty x y
            split at s
            · rename_i id off cs ti hx hy hti
              rw [forceL_eq] at s
              split at s
              · rename_i hb
                simp only [Bool.and_eq_true] at hb
                obtain ⟨ob, h1, h2, h3, s⟩ := s
                have ht := Env.at hti
                obtain ⟨d, hdu⟩ := atOf_some (P := E.P) (t := ty) (by
                  rw [← ht.1]; intro e; rw [e] at hb; exact absurd hb.2 (by simp))
                rw [evm] at hx hy
                exact next (fun e => hwt e) hga hnl (OpW.of_V (OpV.store rfl hdu hx h1 h2 hy (by rw [← ht.2.1]; exact Nat.eq_of_beq_eq_true hb.1.1) hb.1.2 h3)) s
              · exact s.elim
            · exact s.elim
          · rename_i fo args tys
            split at s
            · rename_i k first caps hf
              rw [forceL_eq] at s
              obtain ⟨v, h2, hc, s⟩ := s
              rw [force_eq] at s
              rw [evm] at hf
              rw [evf] at hc
              exact next (fun e => hwt e) hga hnl (OpW.of_call rfl hf hc.sc) s
            · exact s.elim
          · split at s
            · rename_i cs v ob he
              obtain ⟨c1, s⟩ := andL_all s
              rw [force_eq] at s
              rw [evf] at he
              exact next (fun e => hwt e) hga hnl (OpW.of_V (aval_new he c1)) s
            · obtain ⟨v, h', hv, s⟩ := s
              rw [force_eq] at s
              exact next (fun e => hwt e) hga hnl (OpW.of_V hv) s

/-- A region of open order: T tells who is ahead of whom, W who writes. -/
theorem Rest.draw {E : Env} (hm : E.P.follows .mixedOrders = true) {id : Nat} {ops : Array Oper} {Q : AX → AF → AHeap → Prop} {N : Nat} {D : List (FuncId × List AV)} {t : Nat → AV} {h : AHeap} (T W A R : List Nat) (n0 : Nat) (hok : dok ops.toList T W A R = true) (hlim : W.all (fun k => decide (k < ops.size)) = true)
    (s : TD E N D (ops.toList.map (·.dst)) W A R n0 (fun t h => Q .normal ⟨t, N, D⟩ h) ops.toList 0 t h) : Rest E.P (.region id ops true) Q ⟨t, N, D⟩ h := by
  refine ⟨fun ρ act w ha hh => ?_⟩
  obtain ⟨vs, hs, tr⟩ := TD.trace s
  refine wp_region_any hm ?_
  have hst : ∀ i o, ops[i]? = some o → StepOk E N D ops W A R n0 i o (tsF ops.toList vs t i) (hs i) (vs i) (hs (i + 1)) := by
    intro i o ho
    have := tr.step i o (by simpa using ho)
    rw [tsG_zero] at this
    simpa using this
  have hq : Q .normal ⟨tsF ops.toList vs t ops.size, N, D⟩ (hs ops.size) := by
    have := tr.fin
    rw [tsG_zero] at this
    simpa using this
  have hF : ∀ n, fdF ops.toList vs t (fun _ => false) n = t := by
    intro n
    induction n with
    | zero => rfl
    | succ n ih =>
      simp only [fdF, ih]
      cases ops.toList[n]? <;> simp
  have hH : ∀ n, hdF hs W (fun _ => false) n = h := by
    intro n
    induction n with
    | zero => exact tr.start
    | succ n ih => simp only [hdF, ih]; simp
  refine draw_any (Dok.of hok) tr.keep tr.grow (fun k hk => by have := List.all_eq_true.1 hlim k (List.elem_iff.1 hk); simpa using this) hst hq ops.size (Array.replicate ops.size false) (fun _ => false) (by simp) (fun i hi => ?_) (fun _ _ => rfl) (fun _ _ _ _ _ e => by cases e) (undone_all _) ρ act _ ?_ ?_ ?_
  · rw [Array.getD_eq_getD_getElem?, Array.getElem?_replicate, if_pos hi]; rfl
  · rw [hF]; exact ha
  · rw [hH]; exact hh.world rfl
  · rw [hH]; exact ⟨⟨[], by simp⟩, rfl, rfl, rfl, Nat.le_refl _, fun _ _ _ => rfl, fun _ h => .inl h⟩

/-- Who is ahead of whom: the closure, as bits. -/
def closeL (ops : List Oper) : List Nat :=
  ops.foldl (fun T o => T ++ [o.after.toList.foldl (fun m e => bif Region.binds .any e then m ||| (1 <<< e.on) ||| T.getD e.on 0 else m) 0]) []

theorem Rest.drawW {E : Env} (W : List Nat) (hm : E.P.follows .mixedOrders = true) {id : Nat} {ops : Array Oper} {Q : AX → AF → AHeap → Prop} {N : Nat} {D : List (FuncId × List AV)} {t : Nat → AV} {h : AHeap} (hok : (dok ops.toList (closeL ops.toList) W [] [] && W.all (fun k => decide (k < ops.size))) = true)
    (s : TD E N D (ops.toList.map (·.dst)) W [] [] 0 (fun t h => Q .normal ⟨t, N, D⟩ h) ops.toList 0 t h) : Rest E.P (.region id ops true) Q ⟨t, N, D⟩ h := by
  rw [Bool.and_eq_true] at hok
  exact Rest.draw hm (closeL ops.toList) W [] [] 0 hok.1 hok.2 s

/-- Where new memory is made in no order with what reads the old one: A makes, R reads. -/
theorem Rest.drawA {E : Env} (W A R : List Nat) (hm : E.P.follows .mixedOrders = true) {id : Nat} {ops : Array Oper} {Q : AX → AF → AHeap → Prop} {N : Nat} {D : List (FuncId × List AV)} {t : Nat → AV} {h : AHeap} (hok : (dok ops.toList (closeL ops.toList) W A R && W.all (fun k => decide (k < ops.size))) = true)
    (s : TD E N D (ops.toList.map (·.dst)) W A R h.length (fun t h => Q .normal ⟨t, N, D⟩ h) ops.toList 0 t h) : Rest E.P (.region id ops true) Q ⟨t, N, D⟩ h := by
  rw [Bool.and_eq_true] at hok
  exact Rest.draw hm (closeL ops.toList) W A R h.length hok.1 hok.2 s

end Go.Sim
