/- Code, computed: regions, branches; calls, loops, reads and writes stand as what is to be shown. -/
import Derived.Test.YtabobghngfmilaaDoorSimH
set_option linter.unusedSimpArgs false
set_option linter.unusedVariables false
namespace Go.Sim

/-- A call, as what is to be shown. -/
structure Call (P : Program) (f : FuncId) (args : List AV) (R : AE → AHeap → Prop) (h : AHeap) : Prop where
  sc : SC P f args R h

/-- A loop, as what is to be shown. -/
structure Loop (P : Program) (c : Code) (Q : AX → AF → AHeap → Prop) (a : AF) (h : AHeap) : Prop where
  lp : SLWP P c Q a h

/-- Code that is not computed. -/
structure Rest (P : Program) (c : Code) (Q : AX → AF → AHeap → Prop) (a : AF) (h : AHeap) : Prop where
  wp : SWP P c Q a h

def putT (t : Nat → AV) (dst : Option Tmp) (v : AV) : Nat → AV :=
  match dst with
  | some d => fun j => bif Nat.beq j d then v else t j
  | none => t

def evT (P : Program) (t : Nat → AV) : Operand → AV
  | .tmp i => t i
  | .const v => cV v
  | .global g => if g < P.globals.size then .p (some (g, 0)) else .undef
  | .func f => .fn (.func f) [] []

def dstB (N : Nat) (dst : Option Tmp) : Bool :=
  match dst with
  | some d => Nat.blt d N
  | none => true

def gval (ds : List (Option Tmp)) (t : Nat → AV) (g : Option (Nat × Bool)) : Option Bool :=
  match g with
  | none => some true
  | some (j, want) =>
    match ds[j]? with
    | none => some false
    | some none => some false
    | some (some d) =>
      match t d with
      | .b b =>
        match b with
        | true => some want
        | false => some (!want)
      | .tu _ => some false
      | _ => none

section
variable (E : Env) (N : Nat) (ds : List (Option Tmp)) (Q : AX → AF → AHeap → Prop)

/-- One operation, then what follows. -/
def TOs (next : List Prop → List (FuncId × List AV) → (Nat → AV) → AHeap → Prop) (o : Oper) (cs : List Prop) (D : List (FuncId × List AV)) (t : Nat → AV) (h : AHeap) : Prop :=
  match o with
  | ⟨dst, op, oty, opos, oafter, guard⟩ =>
    match dstB N dst with
    | false => False
    | true =>
      match gval ds t guard with
      | none => False
      | some false => next cs D (putT t dst (.tu [])) h
      | some true =>
        match op with
        | .load ty x =>
          match evT E.P t x with
          | .p (some (id, off)) => ∃ v, ald E.P h ty id off = some v ∧ force v fun v => next cs D (putT t dst v) h
          | _ => False
        | .store ty x y =>
          match evT E.P t x, (evT E.P t y).cells, E.ty ty with
          | .p (some (id, off)), some vs, some ti => forceL vs fun vs =>
            match Nat.beq vs.length ti.size && vs.all AV.one && (match ti.d with | .none => false | _ => true) with
            | true => ∃ ob, h[id]? = some ob ∧ ob.st = .rw ∧ off + vs.length ≤ ob.cells.length ∧ next cs D (putT t dst (.tu [])) (h.set id { ob with cells := splice ob.cells off vs })
            | false => False
          | _, _, _ => False
        | .panic x =>
          match evT E.P t x with
          | .ifc ty v => andL cs (Q (.panic (.ifc ty v)) ⟨t, N, D⟩ h)
          | _ => False
        | .call { callee := .value fo, args := args, argTypes := _ } =>
          match evT E.P t fo with
          | .fn (.func k) first caps => forceL (first ++ args.toList.map (evT E.P t) ++ caps) fun as =>
            andL cs (Call E.P k as (fun r h' => match r with
              | .ret v => next [] D (putT t dst v) h'
              | .panic v => Q (.panic v) ⟨t, N, D⟩ h') h)
          | _ => False
        | .call { callee := .builtin .len, args := args, argTypes := tys } =>
          match args.toList, tys.toList with
          | [x], [ty] =>
            match E.ty ty, evT E.P t x with
            | some ti, .s s => match ti.d with
              | .str => next cs D (putT t dst (.i .i64 s.length)) h
              | _ => False
            | some ti, .sl _ len _ _ => match ti.d with
              | .sl _ => next cs D (putT t dst (.i .i64 len)) h
              | _ => False
            | _, _ => False
          | _, _ => False
        | .call { callee := .builtin .append, args := args, argTypes := tys } =>
          match args.toList, tys.toList with
          | [x, y], [ty, ty'] =>
            match E.ty ty, evT E.P t x, evT E.P t y with
            | some ti, .sl (some (id1, off1)) n esz tg, .sl (some (id, off)) m esz' _ =>
              match ti.d with
              | .sl e => match E.ty e with
                | some te => match te.zero with
                  | some zero => match Nat.beq ty ty' && Nat.beq esz' esz && Nat.beq te.size esz && Nat.beq zero.length esz with
                    | true => ∃ ob news, h[id1]? = some ob ∧ srcCells h (some (id, off)) m esz = some news ∧ off1 = 0 ∧ tg = false ∧ ob.st = .rw ∧ ob.ty = e ∧ n * esz ≤ ob.cells.length ∧ news.all AV.one = true ∧ 0 < m ∧
                        (n + m) * te.bytes ≤ 140737488355328 ∧ n + m ≤ 9223372036854775807 ∧
                        next cs D (putT t dst (.sl (some (h.length, 0)) (n + m) esz false)) (h.set id1 deadObj ++ [⟨e, ob.cells.take (n * esz) ++ news, .rw⟩])
                    | false => False
                  | none => False
                | none => False
              | _ => False
            | some ti, .sl none n esz0 tg, .sl (some (id, off)) m esz _ =>
              match ti.d with
              | .sl e => match E.ty e with
                | some te => match te.zero with
                  | some zero => match Nat.beq ty ty' && Nat.beq te.size esz && Nat.beq zero.length esz with
                    | true => ∃ news, srcCells h (some (id, off)) m esz = some news ∧ n = 0 ∧ 0 < m ∧ m * te.bytes ≤ 140737488355328 ∧ m ≤ 9223372036854775807 ∧
                        next cs D (putT t dst (.sl (some (h.length, 0)) m esz false)) (h ++ [⟨e, news, .rw⟩])
                    | false => False
                  | none => False
                | none => False
              | _ => False
            | _, _, _ => ∃ v h', OpV E.P ⟨t, N, D⟩ h ⟨dst, op, oty, opos, oafter, guard⟩ v h' ∧ force v fun v => next cs D (putT t dst v) h'
          | _, _ => False
        | op =>
          match aval E (evT E.P t) op with
          | .val cs' v => force v fun v => next (cs ++ cs') D (putT t dst v) h
          | .new cs' v ob => force (v h.length) fun v => next (cs ++ cs') D (putT t dst v) (h ++ [ob])
          | .no => ∃ v h', OpV E.P ⟨t, N, D⟩ h ⟨dst, op, oty, opos, oafter, guard⟩ v h' ∧ force v fun v => next cs D (putT t dst v) h'


/-- All operations: the recursor itself, so that the kernel unfolds it as whnf does. -/
def TO (l : List Oper) : List Prop → List (FuncId × List AV) → (Nat → AV) → AHeap → Prop :=
  @List.rec Oper (fun _ => List Prop → List (FuncId × List AV) → (Nat → AV) → AHeap → Prop) (fun cs D t h => andL cs (Q .normal ⟨t, N, D⟩ h)) (fun o _ next => TOs E N ds Q next o) l

end

theorem evT_ev (E : Env) (t : Nat → AV) (N : Nat) (D : List (FuncId × List AV)) (x : Operand) : evT E.P t x = (AF.mk t N D).ev E.P x := by cases x <;> rfl

theorem putT_put (t : Nat → AV) (N : Nat) (D : List (FuncId × List AV)) (dst : Option Tmp) (v : AV) : (AF.mk t N D).put dst v = ⟨putT t dst v, N, D⟩ := by cases dst <;> rfl

theorem dstB_ok {N : Nat} {dst : Option Tmp} (h : dstB N dst = true) (t : Nat → AV) (D : List (FuncId × List AV)) : DstOk ⟨t, N, D⟩ dst := by
  cases dst with
  | none => trivial
  | some d => exact Nat.le_of_ble_eq_true h

theorem gval_aguard {ops : Array Oper} {t : Nat → AV} {N : Nat} {D : List (FuncId × List AV)} {o : Oper} {g : Bool} (h : gval (ops.toList.map (·.dst)) t o.guard = some g) : aguard ops ⟨t, N, D⟩ o = some g := by
  unfold gval at h
  unfold aguard
  cases hg : o.guard with
  | none => rw [hg] at h; exact h
  | some jw =>
    obtain ⟨j, want⟩ := jw
    rw [hg] at h
    simp only [List.getElem?_map, Array.getElem?_toList] at h
    simp only
    cases hd : ops[j]? with
    | none => rw [hd] at h; exact h
    | some oj =>
      rw [hd] at h
      simp only [Option.map_some, Option.bind_some] at h ⊢
      cases hdd : oj.dst with
      | none => rw [hdd] at h; exact h
      | some d =>
        rw [hdd] at h
        simp only at h ⊢
        cases ht : t d <;> rw [ht] at h <;> simp only at h ⊢ <;> try (first | exact h | cases h; done)
        rename_i b
        cases b <;> cases want <;> simp_all

theorem TO.sound {E : Env} {N : Nat} {ops : Array Oper} {Q : AX → AF → AHeap → Prop} : ∀ {l : List Oper} {cs : List Prop} {D : List (FuncId × List AV)} {t : Nat → AV} {h : AHeap}, TO E N (ops.toList.map (·.dst)) Q l cs D t h →
    AllP cs ∧ SOps E.P ops Q l ⟨t, N, D⟩ h
  | [], cs, D, t, h, s => ⟨(andL_all s).1, SOps.nil (andL_all s).2⟩
  | ⟨dst, op, oty, opos, oafter, guard⟩ :: l, cs, D, t, h, s => by
    change TOs E N (ops.toList.map (·.dst)) Q (TO E N (ops.toList.map (·.dst)) Q l) ⟨dst, op, oty, opos, oafter, guard⟩ cs D t h at s
    unfold TOs at s
    dsimp only at s
    split at s
    · exact s.elim
    rename_i hdb
    have hd := dstB_ok hdb t D
    split at s
    · exact s.elim
    · rename_i hg
      have ih := TO.sound s
      exact ⟨ih.1, SOps.skipped (gval_aguard (o := ⟨dst, op, oty, opos, oafter, guard⟩) hg) hd (by rw [putT_put]; exact ih.2)⟩
    · rename_i hg
      have hg := gval_aguard (N := N) (D := D) (o := ⟨dst, op, oty, opos, oafter, guard⟩) hg
      have value : ∀ {v : AV} {h' : AHeap}, OpV E.P ⟨t, N, D⟩ h ⟨dst, op, oty, opos, oafter, guard⟩ v h' → SOps E.P ops Q l ⟨putT t dst v, N, D⟩ h' → SOps E.P ops Q (⟨dst, op, oty, opos, oafter, guard⟩ :: l) ⟨t, N, D⟩ h := by
        intro v h' hv hs
        exact SOps.value hg hv hd (by rw [putT_put]; exact hs)
      split at s
      · rename_i ty x
        split at s
        · rename_i id off hx
          obtain ⟨v, hv, s⟩ := s
          rw [force_eq] at s
          have ih := TO.sound s
          exact ⟨ih.1, value (OpV.load rfl (by rw [← evT_ev]; exact hx) hv) ih.2⟩
        · exact s.elim
      · rename_i ty x y
        split at s
        · rename_i id off vs ti hx hy hti
          rw [forceL_eq] at s
          split at s
          · rename_i hb
            simp only [Bool.and_eq_true] at hb
            obtain ⟨ob, h1, h2, h3, s⟩ := s
            have ih := TO.sound s
            have ht := Env.at hti
            obtain ⟨d, hdu⟩ := atOf_some (P := E.P) (t := ty) (by
              rw [← ht.1]; intro e; rw [e] at hb; exact absurd hb.2 (by simp))
            exact ⟨ih.1, value (OpV.store rfl hdu (by rw [← evT_ev]; exact hx) h1 h2 (by rw [← evT_ev]; exact hy) (by rw [← ht.2.1]; exact Nat.eq_of_beq_eq_true hb.1.1) hb.1.2 h3) ih.2⟩
          · exact s.elim
        · exact s.elim
      · rename_i x
        split at s
        · rename_i ty v hx
          obtain ⟨c1, c2⟩ := andL_all s
          exact ⟨c1, SOps.panic rfl hg (by rw [← evT_ev]; exact hx) c2⟩
        · exact s.elim
      · rename_i fo args tys
        split at s
        · rename_i k first caps hf
          rw [forceL_eq] at s
          obtain ⟨c1, c2⟩ := andL_all s
          refine ⟨c1, SOps.call rfl hg (by rw [← evT_ev]; exact hf) hd ?_⟩
          have hm : args.toList.map ((AF.mk t N D).ev E.P) = args.toList.map (evT E.P t) := List.map_congr_left fun x _ => (evT_ev E t N D x).symm
          rw [hm]
          refine c2.sc.mono ?_
          intro r h' hr
          cases r with
          | ret v =>
            show SOps E.P ops Q l ((AF.mk t N D).put dst v) h'
            rw [putT_put]; exact (TO.sound hr).2
          | panic v => exact hr
        · exact s.elim
      · rename_i args tys
        split at s
        · rename_i x ty hx0 ht0
          have e1 : args = #[x] := by rw [← Array.toArray_toList (xs := args), hx0]
          have e2 : tys = #[ty] := by rw [← Array.toArray_toList (xs := tys), ht0]
          subst e1; subst e2
          split at s
          · rename_i ti str hti hx
            split at s
            · rename_i hdt
              have ih := TO.sound s
              exact ⟨ih.1, value (OpV.lenStr rfl (atOf_str (by rw [← (Env.at hti).1]; exact hdt)) (by rw [← evT_ev]; exact hx)) ih.2⟩
            · exact s.elim
          · rename_i ti ad len esz tg hti hx
            split at s
            · rename_i e hdt
              have ih := TO.sound s
              exact ⟨ih.1, value (OpV.lenSl rfl (atOf_sl (by rw [← (Env.at hti).1]; exact hdt)) (by rw [← evT_ev]; exact hx)) ih.2⟩
            · exact s.elim
          · exact s.elim
        · exact s.elim
      · rename_i args tys
        split at s
        · rename_i x y ty ty' hx0 ht0
          have e1 : args = #[x, y] := by rw [← Array.toArray_toList (xs := args), hx0]
          have e2 : tys = #[ty, ty'] := by rw [← Array.toArray_toList (xs := tys), ht0]
          subst e1; subst e2
          split at s
          · rename_i ti id1 off1 n esz tg id off m esz' tg' hti hx hy
            split at s
            · rename_i e hdt
              split at s
              · rename_i te hte
                split at s
                · rename_i zero hz
                  split at s
                  · rename_i hb
                    simp only [Bool.and_eq_true] at hb
                    obtain ⟨ob, news, h1, h2, rfl, rfl, h3, h4, h5, h6, h7, h8, h9, s⟩ := s
                    have ih := TO.sound s
                    have b1 := Nat.eq_of_beq_eq_true hb.1.1.1
                    have b2 := Nat.eq_of_beq_eq_true hb.1.1.2
                    subst b1; subst b2
                    have g1 := Env.at hti
                    have g2 := Env.at hte
                    rw [g2.2.2.1] at h8
                    exact ⟨ih.1, value (OpV.append rfl (atOf_sl (by rw [← g1.1]; exact hdt)) (by rw [← g2.2.2.2.2]; exact hz) (by rw [← g2.2.1]; exact Nat.eq_of_beq_eq_true hb.1.2) (Nat.eq_of_beq_eq_true hb.2)
                      (by rw [← evT_ev]; exact hx) h1 h3 h4 h5 (by rw [← evT_ev]; exact hy) h2 h6 h7 h8 h9) ih.2⟩
                  · exact s.elim
                · exact s.elim
              · exact s.elim
            · exact s.elim
          · rename_i ti n esz0 tg id off m esz tg' hti hx hy
            split at s
            · rename_i e hdt
              split at s
              · rename_i te hte
                split at s
                · rename_i zero hz
                  split at s
                  · rename_i hb
                    simp only [Bool.and_eq_true] at hb
                    obtain ⟨news, h2, rfl, h7, h8, h9, s⟩ := s
                    have ih := TO.sound s
                    have b1 := Nat.eq_of_beq_eq_true hb.1.1
                    subst b1
                    have g1 := Env.at hti
                    have g2 := Env.at hte
                    rw [g2.2.2.1] at h8
                    exact ⟨ih.1, value (OpV.appendNil rfl (atOf_sl (by rw [← g1.1]; exact hdt)) (by rw [← g2.2.2.2.2]; exact hz) (by rw [← g2.2.1]; exact Nat.eq_of_beq_eq_true hb.1.2) (Nat.eq_of_beq_eq_true hb.2)
                      (by rw [← evT_ev]; exact hx) (by rw [← evT_ev]; exact hy) h2 h7 h8 h9) ih.2⟩
                  · exact s.elim
                · exact s.elim
              · exact s.elim
            · exact s.elim
          · obtain ⟨v, h', hv, s⟩ := s
            rw [force_eq] at s
            have ih := TO.sound s
            exact ⟨ih.1, value hv ih.2⟩
        · exact s.elim
      · have hev : evT E.P t = (AF.mk t N D).ev E.P := funext (evT_ev E t N D)
        rw [hev] at s
        split at s
        · rename_i cs' v he
          rw [force_eq] at s
          have ih := TO.sound s
          obtain ⟨c1, c2⟩ := AllP_append ih.1
          exact ⟨c1, value (aval_val he c2) ih.2⟩
        · rename_i cs' v ob he
          rw [force_eq] at s
          have ih := TO.sound s
          obtain ⟨c1, c2⟩ := AllP_append ih.1
          exact ⟨c1, value (aval_new he c2) ih.2⟩
        · obtain ⟨v, h', hv, s⟩ := s
          rw [force_eq] at s
          have ih := TO.sound s
          exact ⟨ih.1, value hv ih.2⟩

/-- Code, computed but for its loops and calls: the recursor itself. -/
def T (E : Env) (c : Code) : (AX → AF → AHeap → Prop) → AF → AHeap → Prop :=
  @Code.rec (fun _ => (AX → AF → AHeap → Prop) → AF → AHeap → Prop)
    (fun Q a h => Q .normal a h)
    (fun id ops draw Q a h => match draw with
      | true => Rest E.P (.region id ops true) Q a h
      | false => match a with
        | ⟨t, N, D⟩ => TO E N (ops.toList.map (·.dst)) Q ops.toList [] D t h)
    (fun _ _ x y Q a h => x (thenA (y Q) Q) a h)
    (fun c _ _ x y Q a h => match a with
      | ⟨t, N, D⟩ => match evT E.P t c with
        | .b b => match b with
          | true => x Q ⟨t, N, D⟩ h
          | false => y Q ⟨t, N, D⟩ h
        | _ => False)
    (fun id _ x Q a h => x (blockA id Q) a h)
    (fun c _ Q a h => Loop E.P c Q a h)
    (fun f params asg body _ _ Q a h => Rest E.P (.rangeFunc f params asg body) Q a h)
    (fun id Q a h => Q (.exit id) a h)
    (fun body _ Q a h => Rest E.P (.scope body) Q a h)
    (fun _ Q a h => Q .normal a h)
    (fun l Q a h => Rest E.P (.goto l) Q a h)
    (fun Q a h => Q .ret a h)
    (fun why Q a h => Rest E.P (.refuse why) Q a h) c

theorem thenA_mono {N N' : AF → AHeap → Prop} {Q : AX → AF → AHeap → Prop} (hn : ∀ a h, N a h → N' a h) : ∀ x a h, thenA N Q x a h → thenA N' Q x a h := by
  intro x a h hx
  cases x <;> first | exact hn _ _ hx | exact hx

theorem T.sound {E : Env} : ∀ {c : Code} {Q : AX → AF → AHeap → Prop} {a : AF} {h : AHeap}, T E c Q a h → SWP E.P c Q a h
  | .skip, _, _, _, s => SWP.skip s
  | .seq x y, Q, a, h, s => SWP.seq (SWP.mono (Q := thenA (T E y Q) Q) (T.sound s) (thenA_mono (N := T E y Q) (N' := SWP E.P y Q) fun _ _ => T.sound))
  | .cond c x y, Q, ⟨t, N, D⟩, h, s => by
    change (match evT E.P t c with
        | .b b => match b with
          | true => T E x Q ⟨t, N, D⟩ h
          | false => T E y Q ⟨t, N, D⟩ h
        | _ => False) at s
    split at s
    · rename_i b hb
      have hb' : (AF.mk t N D).ev E.P c = .b b := by rw [← hb]; exact (evT_ev E t N D c).symm
      cases b with
      | true => exact SWP.cond hb' (fun _ => T.sound s) (fun e => by cases e)
      | false => exact SWP.cond hb' (fun e => by cases e) (fun _ => T.sound s)
    · exact s.elim
  | .block _ _, _, _, _, s => SWP.block (T.sound s)
  | .loop _, _, _, _, s => SLWP.loop s.lp
  | .exit _, _, _, _, s => SWP.exit s
  | .label _, _, _, _, s => SWP.label s
  | .ret, _, _, _, s => SWP.ret s
  | .region _ _ false, _, ⟨_, _, _⟩, _, s => SOps.region (TO.sound s).2
  | .region _ _ true, _, _, _, s => s.wp
  | .rangeFunc _ _ _ _, _, _, _, s => s.wp
  | .scope _, _, _, _, s => s.wp
  | .goto _, _, _, _, s => s.wp
  | .refuse _, _, _, _, s => s.wp

theorem Loop.round {E : Env} {c : Code} {Q : AX → AF → AHeap → Prop} {a : AF} {h : AHeap} (s : T E c (thenA (Loop E.P c Q) Q) a h) : Loop E.P c Q a h :=
  ⟨SLWP.round ((T.sound s).mono (thenA_mono fun _ _ l => l.lp))⟩

/-- The results of a body. -/
def resT (E : Env) (t : Nat → AV) (h : AHeap) : List ResultVar → (List AV → Prop) → Prop
  | [], k => k []
  | .tmp i :: r, k => force (t i) fun v => resT E t h r fun vs => k (v :: vs)
  | .cell i ty :: r, k =>
    match t i with
    | .p (some (id, off)) => ∃ v, ald E.P h ty id off = some v ∧ force v fun v => resT E t h r fun vs => k (v :: vs)
    | _ => False

theorem resT_ares {E : Env} {t : Nat → AV} {N : Nat} {D : List (FuncId × List AV)} {h : AHeap} : ∀ {rs : List ResultVar} {k : List AV → Prop}, resT E t h rs k → ∃ vs, aresL E.P ⟨t, N, D⟩ h rs = some vs ∧ k vs
  | [], k, s => ⟨[], rfl, s⟩
  | .tmp i :: r, k, s => by
    unfold resT at s
    rw [force_eq] at s
    obtain ⟨vs, h1, h2⟩ := resT_ares (N := N) (D := D) s
    exact ⟨_, by simp only [aresL, ares1, h1], h2⟩
  | .cell i ty :: r, k, s => by
    unfold resT at s
    split at s
    · rename_i id off hi
      obtain ⟨v, hv, s⟩ := s
      rw [force_eq] at s
      obtain ⟨vs, h1, h2⟩ := resT_ares (N := N) (D := D) s
      exact ⟨_, by simp only [aresL, ares1, h1, hi, hv], h2⟩
    · exact s.elim

def bodyT (E : Env) (rs : List ResultVar) (R : AE → AHeap → Prop) : AX → AF → AHeap → Prop
  | .normal, a, h | .ret, a, h => match a with
    | ⟨t, _, D⟩ => match D with
      | [] => resT E t h rs fun vs => match vs with
        | [v] => R (.ret v) h
        | vs => R (.ret (.tu vs)) h
      | _ => False
  | .panic v, a, h => match a with
    | ⟨_, _, D⟩ => match D with
      | [] => R (.panic v) h
      | _ => False
  | _, _, _ => False

theorem ret_bodyA {E : Env} {fn : Func} {R : AE → AHeap → Prop} {rs : List ResultVar} (hr : fn.results.toList = rs) {t : Nat → AV} {N : Nat} {h : AHeap} (s : resT E t h rs fun vs => match vs with
        | [v] => R (.ret v) h
        | vs => R (.ret (.tu vs)) h) : ∃ v, ares E.P fn ⟨t, N, []⟩ h = some v ∧ R (.ret v) h := by
  obtain ⟨vs, h1, h2⟩ := resT_ares (N := N) (D := []) s
  unfold ares
  rw [hr, h1]
  match vs, h2 with
  | [], h2 => exact ⟨_, rfl, h2⟩
  | [v], h2 => exact ⟨_, rfl, h2⟩
  | v :: u :: r, h2 => exact ⟨_, rfl, h2⟩

theorem bodyT_bodyA {E : Env} {fn : Func} {R : AE → AHeap → Prop} {rs : List ResultVar} (hr : fn.results.toList = rs) {x : AX} {a : AF} {h : AHeap} (s : bodyT E rs R x a h) : bodyA E.P fn R x a h := by
  obtain ⟨t, N, D⟩ := a
  cases D with
  | nil =>
    cases x with
    | normal => exact ⟨rfl, ret_bodyA hr s⟩
    | ret => exact ⟨rfl, ret_bodyA hr s⟩
    | panic v => exact ⟨rfl, s⟩
    | exit => exact s.elim
    | goto => exact s.elim
  | cons =>
    cases x <;> exact s.elim

theorem Call.of_body {E : Env} {f : FuncId} {fn : Func} {c : Code} {args : List AV} {N : Nat} {rs : List ResultVar} {R : AE → AHeap → Prop} {h : AHeap} (hf : E.P.funcs[f]? = some fn) (hN : fn.ntmps = N) (hr : fn.results = rs.toArray) (hb : fn.body = some c)
    (hname : (fn.name == "runtime.NumGoroutine") = false) (hn : Nat.ble args.length N = true) (s : T E c (bodyT E rs R) ⟨fun j => (args[j]?).getD (.tu []), N, []⟩ h) : Call E.P f args R h := by
  subst hN
  exact ⟨SC.of_body hf hname hb (Nat.le_of_ble_eq_true hn) ((T.sound s).mono fun _ _ _ => bodyT_bodyA (by rw [hr]))⟩

theorem Call.mono {P : Program} {f : FuncId} {args : List AV} {R R' : AE → AHeap → Prop} {h : AHeap} (s : Call P f args R h) (hr : ∀ r h, R r h → R' r h) : Call P f args R' h := ⟨s.sc.mono hr⟩

theorem Call.same {P : Program} {f : FuncId} {args : List AV} {R : AE → Prop} {h : AHeap} (s : Call P f args (fun r h' => (∃ e, h' = h ++ e) ∧ r.under h.length ∧ R r) h) : Call P f args (fun r h' => h' = h ∧ R r) h := ⟨s.sc.same⟩

end Go.Sim
