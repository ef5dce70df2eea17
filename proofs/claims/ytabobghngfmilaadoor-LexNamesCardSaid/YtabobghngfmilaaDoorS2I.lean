/- Code, computed: regions, branches; calls, loops, reads and writes stand as what is to be shown. -/
import Derived.Test.YtabobghngfmilaaDoorS2P
set_option linter.unusedSimpArgs false
set_option linter.unusedVariables false
namespace Go.S2

/-- A call, as what is to be shown. -/
structure Call (P : Program) (f : FuncId) (args : List AV) (R : AE → AHeap → Prop) (h : AHeap) : Prop where
  sc : SC P f args R h

/-- A loop, as what is to be shown. -/
structure Loop (m : Nat) (P : Program) (c : Code) (Q : AX → AF → AHeap → Prop) (a : AF) (h : AHeap) : Prop where
  lp : SLWP m P c Q a h

/-- Code that is not computed. -/
structure Rest (m : Nat) (P : Program) (c : Code) (Q : AX → AF → AHeap → Prop) (a : AF) (h : AHeap) : Prop where
  wp : SWP m P c Q a h

def putT (t : Nat → AV) (dst : Option Tmp) (v : AV) : Nat → AV :=
  match dst with
  | some d => fun j => bif Nat.beq j d then v else t j
  | none => t

def evT (P : Program) (t : Nat → AV) : Operand → AV
  | .tmp i => t i
  | .const v => cV v
  | .global g => match glOf P g with
    | some cs => .ip cs
    | none => .undef
  | .func f => .fn (.func f) [] []

def dstB (N : Nat) (dst : Option Tmp) : Bool :=
  match dst with
  | some d => Nat.blt d N
  | none => true

def gval (ds : List (Option Tmp)) (t : Nat → AV) (g : Option (Nat × Bool)) : Option Bool :=
  match g with
  | none => some true
  | some (j, want) =>
    match ds[j]? with
    | none => some false
    | some none => some false
    | some (some d) =>
      match t d with
      | .b b =>
        match b with
        | true => some want
        | false => some (!want)
      | .tu _ => some false
      | _ => none

/-- What is read of an object. -/
def aldT (ti : TI) (cells : List AV) (off : Nat) : Option AV :=
  match ti.d with
  | .none => none
  | .st _ => match Nat.ble (off + ti.size) cells.length with
    | true => some (.ag ((cells.drop off).take ti.size))
    | false => none
  | .arr _ _ => match Nat.ble (off + ti.size) cells.length with
    | true => some (.ag ((cells.drop off).take ti.size))
    | false => none
  | _ => cells[off]?

/-- The cells that a slice of elements of such a size shows: under which conditions, which, how many elements; are there no addresses for sure? -/
def srcT (h : AHeap) (esz : Nat) (v : AV) : Option (List Prop × List AV × Nat × Bool) :=
  match v with
  | .sl none _ _ _ => some ([], [], 0, true)
  | .sl (some (id, off)) m e _ =>
    match Nat.beq e esz with
    | false => none
    | true => match h[id]? with
      | some o => match o.st with
        | .dead => none
        | .rw => match Nat.ble (off + m * esz) o.cells.length with
          | true => some ([], (o.cells.drop off).take (m * esz), m, false)
          | false => none
        | .vec => some ([off + m * esz ≤ o.cells.length], (o.cells.drop off).take (m * esz), m, true)
        | .frz => some ([off + m * esz ≤ o.cells.length], (o.cells.drop off).take (m * esz), m, true)
      | none => none
  | .im cs m => some ([cs.length = m * esz], cs, m, true)
  | _ => none

def mapD (g : AV → AV) (D : List (FuncId × List AV)) : List (FuncId × List AV) := D.map fun x => (x.1, x.2.map g)

section
variable (E : Env) (N : Nat) (ds : List (Option Tmp)) (Q : AX → AF → AHeap → Prop)

/-- One operation, then what follows. -/
def TOc (next : List Prop → List (FuncId × List AV) → (Nat → AV) → AHeap → Prop) (o : Oper) (cs : List Prop) (D : List (FuncId × List AV)) (t : Nat → AV) (h : AHeap) : Prop :=
  match o with
  | ⟨dst, op, oty, opos, oafter, guard⟩ =>
    match dstB N dst with
    | false => False
    | true =>
      match gval ds t guard with
      | none => False
      | some false => next cs D (putT t dst (.tu [])) h
      | some true =>
        match op with
        | .load ty x =>
          match evT E.P t x, E.ty ty with
          | .p (some (id, off)), some ti => match h[id]? with
            | some ob => match ob.st with
              | .dead => False
              | .rw => match aldT ti ob.cells off with
                | some v => force v fun v => next cs D (putT t dst v) h
                | none => False
              | .vec => ∃ v, aldT ti ob.cells off = some v ∧ force v fun v => next cs D (putT t dst v) h
              | .frz => ∃ v, aldT ti ob.cells off = some v ∧ force v fun v => next cs D (putT t dst v) h
            | none => False
          | .ip cells, some ti => match aldT ti cells 0 with
            | some v => force v fun v => next cs D (putT t dst v) h
            | none => False
          | _, _ => False
        | .store ty x y =>
          match evT E.P t x, (evT E.P t y).cells, E.ty ty with
          | .p (some (id, off)), some vs, some ti => forceL vs fun vs =>
            match Nat.beq vs.length ti.size && vs.all AV.one && (match ti.d with | .none => false | _ => true) with
            | true => match h[id]? with
              | some ob => match ob.st with
                | .rw => match Nat.ble (off + vs.length) ob.cells.length with
                  | true => match ob with
                    | ⟨oty, ocs, _⟩ => forceH (h.set id ⟨oty, splice ocs off vs, .rw⟩) fun h => next cs D (putT t dst (.tu [])) h
                  | false => False
                | .vec => forceL (nilL vs) fun vs => match flatL vs && Nat.beq vs.length ti.size && vs.all AV.one with
                  | true => match ob with
                    | ⟨oty, ocs, _⟩ => andL cs (off + vs.length ≤ ocs.length ∧ forceH (h.set id ⟨oty, splice ocs off vs, .vec⟩) fun h => next [] D (putT t dst (.tu [])) h)
                  | false => False
                | _ => False
              | none => False
            | false => False
          | _, _, _ => False
        | .panic x =>
          match evT E.P t x with
          | .ifc ty v => andL cs (Q (.panic (.ifc ty v)) ⟨t, N, D⟩ h)
          | _ => False
        | .indexAddr ty x y =>
          match evT E.P t x with
          | .im cells len => match evT E.P t y, E.ty ty with
            | .i _ n, some ti => match ti.d with
              | .sl e => match E.ty e with
                | some te => match te.d with
                  | .none => False
                  | _ => andL cs (cells.length = len * te.size ∧ 0 ≤ n ∧ n < len ∧ ∃ el, (cells.drop (n.toNat * te.size)).take te.size = el ∧ next [] D (putT t dst (.ip el)) h)
                | none => False
              | _ => False
            | _, _ => False
          | .ip cells => match evT E.P t y, E.ty ty with
            | .i _ n, some ti => match ti.d with
              | .arr len e => match E.ty e with
                | some te => match te.d with
                  | .none => False
                  | _ => andL cs (cells.length = len * te.size ∧ 0 ≤ n ∧ n < len ∧ ∃ el, (cells.drop (n.toNat * te.size)).take te.size = el ∧ next [] D (putT t dst (.ip el)) h)
                | none => False
              | _ => False
            | _, _ => False
          | _ => match aval E (evT E.P t) (.indexAddr ty x y) with
            | .val cs' v => force v fun v => next (cs ++ cs') D (putT t dst v) h
            | _ => ∃ v h', OpV E.P ⟨t, N, D⟩ h ⟨dst, .indexAddr ty x y, oty, opos, oafter, guard⟩ v h' ∧ force v fun v => next cs D (putT t dst v) h'
        | .call { callee := .value fo, args := args, argTypes := _ } =>
          match evT E.P t fo with
          | .fn (.func k) first caps => forceL (convL h (first ++ args.toList.map (evT E.P t) ++ caps)) fun as =>
            andL cs (Call E.P k as (fun r h' => match r with
              | .ret v => force v fun v => forceH h' fun h' => next [] D (putT t dst v) h'
              | .panic v => force v fun v => forceH h' fun h' => Q (.panic v) ⟨t, N, D⟩ h') h)
          | _ => False
        | .call { callee := .builtin .len, args := args, argTypes := tys } =>
          match args.toList, tys.toList with
          | [x], [ty] =>
            match E.ty ty, evT E.P t x with
            | some ti, .s s => match ti.d with
              | .str => next cs D (putT t dst (.i .i64 s.length)) h
              | _ => False
            | some ti, .sl _ len _ _ => match ti.d with
              | .sl _ => next cs D (putT t dst (.i .i64 len)) h
              | _ => False
            | some ti, .im _ len => match ti.d with
              | .sl _ => next cs D (putT t dst (.i .i64 len)) h
              | _ => False
            | _, _ => False
          | _, _ => False
        | .call { callee := .builtin .append, args := args, argTypes := tys } =>
          match args.toList, tys.toList with
          | [x, y], [ty, ty'] =>
            match Nat.beq ty ty' with
            | false => False
            | true =>
            match E.ty ty with
            | none => False
            | some ti =>
            match ti.d with
            | .sl e => match E.ty e with
              | some te => match te.zero with
                | some zero => match Nat.beq te.size zero.length with
                  | true => match evT E.P t x, srcT h te.size (evT E.P t y) with
                    | .sl none n _ tg, some (cs', news, m, fl) =>
                      match m with
                        | 0 => match te.d with
                          | .none => False
                          | _ => andL (cs ++ cs') (n = 0 ∧ next [] D (putT t dst (.sl none 0 te.size tg)) h)
                        | m' + 1 => match fl with
                          | true => andL (cs ++ cs') (n = 0 ∧ (m' + 1) * te.bytes ≤ 140737488355328 ∧ m' + 1 ≤ 9223372036854775807 ∧
                              lenK h fun hl => forceH (h ++ [⟨e, news, .vec⟩]) fun h' => next [] D (putT t dst (.sl (some (hl, 0)) (m' + 1) te.size false)) h')
                          | false => forceL (nilL news) fun news => match flatL news with
                            | true => andL (cs ++ cs') (n = 0 ∧ (m' + 1) * te.bytes ≤ 140737488355328 ∧ m' + 1 ≤ 9223372036854775807 ∧
                                lenK h fun hl => forceH (h ++ [⟨e, news, .vec⟩]) fun h' => next [] D (putT t dst (.sl (some (hl, 0)) (m' + 1) te.size false)) h')
                            | false => andL (cs ++ cs') (n = 0 ∧ (m' + 1) * te.bytes ≤ 140737488355328 ∧ m' + 1 ≤ 9223372036854775807 ∧
                                lenK h fun hl => forceH (h ++ [⟨e, news, .rw⟩]) fun h' => next [] D (putT t dst (.sl (some (hl, 0)) (m' + 1) te.size false)) h')
                    | .sl (some (id1, off1)) n esz1 tg, some (cs', news, m, fl) =>
                      match Nat.beq te.size esz1 with
                      | true => match h[id1]? with
                        | some ob => match ob.st, Nat.beq ob.ty e && Nat.beq off1 0 && !tg with
                          | .rw, true => forceL news fun news => match Nat.ble (n * esz1) ob.cells.length && news.all AV.one && Nat.blt 0 m with
                            | true => andL (cs ++ cs') ((n + m) * te.bytes ≤ 140737488355328 ∧ n + m ≤ 9223372036854775807 ∧
                                lenK h fun hl => forceH (h.set id1 deadObj ++ [⟨e, ob.cells.take (n * esz1) ++ news, .rw⟩]) fun h' => next [] D (putT t dst (.sl (some (hl, 0)) (n + m) esz1 false)) h')
                            | false => False
                          | .vec, true => match fl with
                            | true => andL (cs ++ cs') (n * esz1 ≤ ob.cells.length ∧ news.all AV.one = true ∧ 0 < m ∧ (n + m) * te.bytes ≤ 140737488355328 ∧ n + m ≤ 9223372036854775807 ∧
                                lenK h fun hl => forceH (h.set id1 deadObj ++ [⟨e, ob.cells.take (n * esz1) ++ news, .vec⟩]) fun h' => next [] D (putT t dst (.sl (some (hl, 0)) (n + m) esz1 false)) h')
                            | false => forceL (nilL news) fun news => match flatL news && news.all AV.one && Nat.blt 0 m with
                              | true => andL (cs ++ cs') (n * esz1 ≤ ob.cells.length ∧ (n + m) * te.bytes ≤ 140737488355328 ∧ n + m ≤ 9223372036854775807 ∧
                                  lenK h fun hl => forceH (h.set id1 deadObj ++ [⟨e, ob.cells.take (n * esz1) ++ news, .vec⟩]) fun h' => next [] D (putT t dst (.sl (some (hl, 0)) (n + m) esz1 false)) h')
                              | false => False
                          | _, _ => False
                        | none => False
                      | false => False
                    | _, _ => ∃ v h', OpV E.P ⟨t, N, D⟩ h ⟨dst, op, oty, opos, oafter, guard⟩ v h' ∧ force v fun v => next cs D (putT t dst v) h'
                  | false => False
                | none => False
              | none => False
            | _ => False
          | _, _ => False
        | op =>
          match aval E (evT E.P t) op with
          | .val cs' v => force v fun v => next (cs ++ cs') D (putT t dst v) h
          | .new cs' v ob => lenK h fun hl => force (v hl) fun v => forceH (h ++ [ob]) fun h' => next (cs ++ cs') D (putT t dst v) h'
          | .no => ∃ v h', OpV E.P ⟨t, N, D⟩ h ⟨dst, op, oty, opos, oafter, guard⟩ v h' ∧ force v fun v => next cs D (putT t dst v) h'

/-- The objects that are to be frozen ahead of an operation: what is stored into cells that hold no address. -/
def needF (t : Nat → AV) (h : AHeap) (o : Op) : List Nat :=
  match o with
  | .store _ x y =>
    match evT E.P t x with
    | .p (some (id, _)) => match h[id]? with
      | some ob => match ob.st with
        | .vec => (evT E.P t y).refs
        | _ => []
      | none => []
    | _ => []
  | .call { callee := .builtin .append, args := args, argTypes := _ } =>
    match args.toList with
    | [x, y] => match (match evT E.P t x with
        | .sl none _ _ _ => true
        | .sl (some (id, _)) _ _ _ => match h[id]? with
          | some ob => match ob.st with
            | .vec => true
            | _ => false
          | none => false
        | _ => false) with
      | true => match evT E.P t y with
        | .sl (some (id, off)) m esz _ => match h[id]? with
          | some ob => match ob.st with
            | .rw => refsL ((ob.cells.drop off).take (m * esz))
            | _ => []
          | none => []
        | _ => []
      | false => []
    | _ => []
  | _ => []

def TOs (next : List Prop → List (FuncId × List AV) → (Nat → AV) → AHeap → Prop) (o : Oper) (cs : List Prop) (D : List (FuncId × List AV)) (t : Nat → AV) (h : AHeap) : Prop :=
  match needF E t h o.op with
  | [] => TOc E N ds Q next o cs D t h
  | r :: rs => forceH (frzC h (r :: rs)) fun h1 => TOc E N ds Q next o cs (mapD (AV.conv (frzHL h (r :: rs))) D) (fun j => (t j).conv (frzHL h (r :: rs))) h1

/-- All operations: the recursor itself, so that the kernel unfolds it as whnf does. -/
def TO (l : List Oper) : List Prop → List (FuncId × List AV) → (Nat → AV) → AHeap → Prop :=
  @List.rec Oper (fun _ => List Prop → List (FuncId × List AV) → (Nat → AV) → AHeap → Prop) (fun cs D t h => andL cs (Q .normal ⟨t, N, D⟩ h)) (fun o _ next => TOs E N ds Q next o) l

end

theorem evT_ev (E : Env) (t : Nat → AV) (N : Nat) (D : List (FuncId × List AV)) (x : Operand) : evT E.P t x = (AF.mk t N D).ev E.P x := by cases x <;> rfl

theorem putT_put (t : Nat → AV) (N : Nat) (D : List (FuncId × List AV)) (dst : Option Tmp) (v : AV) : (AF.mk t N D).put dst v = ⟨putT t dst v, N, D⟩ := by cases dst <;> rfl

theorem dstB_ok {N : Nat} {dst : Option Tmp} (h : dstB N dst = true) (t : Nat → AV) (D : List (FuncId × List AV)) : DstOk ⟨t, N, D⟩ dst := by
  cases dst with
  | none => trivial
  | some d => exact Nat.le_of_ble_eq_true h

theorem gval_aguard {ops : Array Oper} {t : Nat → AV} {N : Nat} {D : List (FuncId × List AV)} {o : Oper} {g : Bool} (h : gval (ops.toList.map (·.dst)) t o.guard = some g) : aguard ops ⟨t, N, D⟩ o = some g := by
  unfold gval at h
  unfold aguard
  cases hg : o.guard with
  | none => rw [hg] at h; exact h
  | some jw =>
    obtain ⟨j, want⟩ := jw
    rw [hg] at h
    simp only [List.getElem?_map, Array.getElem?_toList] at h
    simp only
    cases hd : ops[j]? with
    | none => rw [hd] at h; exact h
    | some oj =>
      rw [hd] at h
      simp only [Option.map_some, Option.bind_some] at h ⊢
      cases hdd : oj.dst with
      | none => rw [hdd] at h; exact h
      | some d =>
        rw [hdd] at h
        simp only at h ⊢
        cases ht : t d <;> rw [ht] at h <;> simp only at h ⊢ <;> try (first | exact h | cases h; done)
        rename_i b
        cases b <;> cases want <;> simp_all

theorem aldT_ald {E : Env} {ty : Nat} {ti : TI} (ht : E.ty ty = some ti) {h : AHeap} {id off : Nat} {ob : AObj} (ho : h[id]? = some ob) (hd : ob.st ≠ .dead) {v : AV} (hv : aldT ti ob.cells off = some v) : ald E.P h ty id off = some v := by
  have h1 := Env.at ht
  unfold aldT at hv
  unfold ald
  rw [ho]
  simp only [if_neg hd]
  split at hv
  · cases hv
  · rename_i fs hfs
    obtain ⟨FS, h2, _⟩ := atOf_st (P := E.P) (t := ty) (by rw [← h1.1]; exact hfs)
    rw [h2]
    split at hv
    · rename_i hb
      simp only
      rw [if_pos (by rw [← h1.2.1]; exact Nat.le_of_ble_eq_true hb), ← h1.2.1]; exact hv
    · cases hv
  · rename_i n e hfs
    have h2 := atOf_arr (P := E.P) (t := ty) (by rw [← h1.1]; exact hfs)
    rw [h2]
    split at hv
    · rename_i hb
      simp only
      rw [if_pos (by rw [← h1.2.1]; exact Nat.le_of_ble_eq_true hb), ← h1.2.1]; exact hv
    · cases hv
  · rename_i n1 n2 n3
    obtain ⟨d, hd'⟩ := atOf_some (P := E.P) (t := ty) (by rw [← h1.1]; exact n1)
    have hx := h1.1
    rw [hd']
    unfold atOf at hx
    rw [hd'] at hx
    cases d <;> simp only at hx ⊢ <;> first | exact hv | exact absurd hx (n2 _) | exact absurd hx (n3 _ _)

theorem aldT_aldI {E : Env} {ty : Nat} {ti : TI} (ht : E.ty ty = some ti) {cs : List AV} {v : AV} (hv : aldT ti cs 0 = some v) : aldI E.P ty cs = some v := by
  have h1 := Env.at ht
  unfold aldT at hv
  unfold aldI
  simp only [Nat.zero_add, List.drop_zero] at hv
  split at hv
  · cases hv
  · rename_i fs hfs
    obtain ⟨FS, h2, _⟩ := atOf_st (P := E.P) (t := ty) (by rw [← h1.1]; exact hfs)
    rw [h2]
    split at hv
    · rename_i hb
      simp only
      rw [if_pos (by rw [← h1.2.1]; exact Nat.le_of_ble_eq_true hb), ← h1.2.1]; exact hv
    · cases hv
  · rename_i n e hfs
    have h2 := atOf_arr (P := E.P) (t := ty) (by rw [← h1.1]; exact hfs)
    rw [h2]
    split at hv
    · rename_i hb
      simp only
      rw [if_pos (by rw [← h1.2.1]; exact Nat.le_of_ble_eq_true hb), ← h1.2.1]; exact hv
    · cases hv
  · rename_i n1 n2 n3
    obtain ⟨d, hd'⟩ := atOf_some (P := E.P) (t := ty) (by rw [← h1.1]; exact n1)
    have hx := h1.1
    rw [hd']
    unfold atOf at hx
    rw [hd'] at hx
    cases d <;> simp only at hx ⊢ <;> first | exact hv | exact absurd hx (n2 _) | exact absurd hx (n3 _ _)

theorem srcT_cells {h : AHeap} {v : AV} {cs : List Prop} {news : List AV} {m esz : Nat} {fl : Bool} (hs : srcT h esz v = some (cs, news, m, fl)) (hc : AllP cs) : srcCells h esz v = some (news, m) ∧ (fl = true → srcFlat h v = true) := by
  unfold srcT at hs
  split at hs
  · simp only [Option.some.injEq, Prod.mk.injEq] at hs
    obtain ⟨rfl, rfl, rfl, rfl⟩ := hs
    exact ⟨rfl, fun _ => rfl⟩
  · rename_i id off m' esz' tg
    split at hs
    · cases hs
    rename_i he
    have he := Nat.eq_of_beq_eq_true he
    subst he
    split at hs
    · rename_i o ho
      split at hs
      · cases hs
      · rename_i hst
        split at hs
        · rename_i hb
          simp only [Option.some.injEq, Prod.mk.injEq] at hs
          obtain ⟨rfl, rfl, rfl, rfl⟩ := hs
          refine ⟨?_, fun e => by cases e⟩
          simp only [srcCells, ho]
          rw [if_neg (by rw [hst]; simp), if_pos (Nat.le_of_ble_eq_true hb)]
        · cases hs
      · rename_i hst
        simp only [Option.some.injEq, Prod.mk.injEq] at hs
        obtain ⟨rfl, rfl, rfl, rfl⟩ := hs
        refine ⟨?_, fun _ => by simp [srcFlat, ho, hst]⟩
        simp only [srcCells, ho]
        rw [if_neg (by rw [hst]; simp), if_pos hc.1]
      · rename_i hst
        simp only [Option.some.injEq, Prod.mk.injEq] at hs
        obtain ⟨rfl, rfl, rfl, rfl⟩ := hs
        refine ⟨?_, fun _ => by simp [srcFlat, ho, hst]⟩
        simp only [srcCells, ho]
        rw [if_neg (by rw [hst]; simp), if_pos hc.1]
    · cases hs
  · simp only [Option.some.injEq, Prod.mk.injEq] at hs
    obtain ⟨rfl, rfl, rfl, rfl⟩ := hs
    refine ⟨?_, fun _ => rfl⟩
    simp only [srcCells]
    rw [if_pos hc.1]
  · cases hs

/-- What follows holds of what TO says. -/
def Snd (m : Nat) (E : Env) (N : Nat) (ops : Array Oper) (Q : AX → AF → AHeap → Prop) (l : List Oper) (next : List Prop → List (FuncId × List AV) → (Nat → AV) → AHeap → Prop) : Prop :=
  ∀ {cs : List Prop} {D : List (FuncId × List AV)} {t : Nat → AV} {h : AHeap}, next cs D t h → AllP cs ∧ SOps m E.P ops Q l ⟨t, N, D⟩ h

theorem TOc.sound {m : Nat} {E : Env} {N : Nat} {ops : Array Oper} {Q : AX → AF → AHeap → Prop} {l : List Oper} {next : List Prop → List (FuncId × List AV) → (Nat → AV) → AHeap → Prop} (IH : Snd m E N ops Q l next)
    {cs : List Prop} {D : List (FuncId × List AV)} {t : Nat → AV} {h : AHeap} : ∀ {o : Oper}, TOc E N (ops.toList.map (·.dst)) Q next o cs D t h → AllP cs ∧ SOps m E.P ops Q (o :: l) ⟨t, N, D⟩ h
  | ⟨dst, op, oty, opos, oafter, guard⟩, s => by
    unfold TOc at s
    dsimp only at s
    split at s
    · exact s.elim
    rename_i hdb
    have hd := dstB_ok hdb t D
    split at s
    · exact s.elim
    · rename_i hg
      have ih := IH s
      exact ⟨ih.1, SOps.skipped (gval_aguard (o := ⟨dst, op, oty, opos, oafter, guard⟩) hg) hd (by rw [putT_put]; exact ih.2)⟩
    · rename_i hg
      have hg := gval_aguard (N := N) (D := D) (o := ⟨dst, op, oty, opos, oafter, guard⟩) hg
      have value : ∀ {v : AV} {h' : AHeap}, OpV E.P ⟨t, N, D⟩ h ⟨dst, op, oty, opos, oafter, guard⟩ v h' → SOps m E.P ops Q l ⟨putT t dst v, N, D⟩ h' → SOps m E.P ops Q (⟨dst, op, oty, opos, oafter, guard⟩ :: l) ⟨t, N, D⟩ h := by
        intro v h' hv hs
        exact SOps.value hg hv hd (by rw [putT_put]; exact hs)
      split at s
      · rename_i ty x
        split at s
        · rename_i id off ti hx hti
          split at s
          · rename_i ob ho
            split at s
            · exact s.elim
            · rename_i hst
              split at s
              · rename_i v hv
                rw [force_eq] at s
                have ih := IH s
                exact ⟨ih.1, value (OpV.load rfl (by rw [← evT_ev]; exact hx) (aldT_ald hti ho (by rw [hst]; exact fun e => by cases e) hv)) ih.2⟩
              · exact s.elim
            · rename_i hst
              obtain ⟨v, hv, s⟩ := s
              rw [force_eq] at s
              have ih := IH s
              exact ⟨ih.1, value (OpV.load rfl (by rw [← evT_ev]; exact hx) (aldT_ald hti ho (by rw [hst]; exact fun e => by cases e) hv)) ih.2⟩
            · rename_i hst
              obtain ⟨v, hv, s⟩ := s
              rw [force_eq] at s
              have ih := IH s
              exact ⟨ih.1, value (OpV.load rfl (by rw [← evT_ev]; exact hx) (aldT_ald hti ho (by rw [hst]; exact fun e => by cases e) hv)) ih.2⟩
          · exact s.elim
        · rename_i cells ti hx hti
          split at s
          · rename_i v hv
            rw [force_eq] at s
            have ih := IH s
            exact ⟨ih.1, value (OpV.loadI rfl (by rw [← evT_ev]; exact hx) (aldT_aldI hti hv)) ih.2⟩
          · exact s.elim
        · exact s.elim
      · rename_i ty x y
        split at s
        · rename_i id off vs ti hx hy hti
          rw [forceL_eq] at s
          split at s
          · rename_i hb
            simp only [Bool.and_eq_true] at hb
            have ht := Env.at hti
            obtain ⟨d, hdu⟩ := atOf_some (P := E.P) (t := ty) (by
              rw [← ht.1]; intro e; rw [e] at hb; exact absurd hb.2 (by simp))
            split at s
            · rename_i ob ho
              split at s
              · rename_i hst
                split at s
                · rename_i hle
                  rw [forceH_eq] at s
                  have ih := IH s
                  have hOp := OpV.store (a := ⟨t, N, D⟩) (o := ⟨dst, .store ty x y, oty, opos, oafter, guard⟩) (h := h) rfl hdu (by rw [← evT_ev]; exact hx) ho (by rw [hst]; rfl) (fun e => by rw [hst] at e; cases e) (by rw [← evT_ev]; exact hy) (.inl rfl)
                    (by rw [← ht.2.1]; exact Nat.eq_of_beq_eq_true hb.1.1) hb.1.2 (Nat.le_of_ble_eq_true hle)
                  rw [hst] at hOp
                  exact ⟨ih.1, value hOp ih.2⟩
                · exact s.elim
              · rename_i hst
                rw [forceL_eq] at s
                split at s
                · rename_i hfl
                  simp only [Bool.and_eq_true] at hfl
                  obtain ⟨c1, hle, s⟩ := andL_all s
                  rw [forceH_eq] at s
                  have ih := IH s
                  have hOp := OpV.store (a := ⟨t, N, D⟩) (o := ⟨dst, .store ty x y, oty, opos, oafter, guard⟩) (h := h) (cs := nilL vs) rfl hdu (by rw [← evT_ev]; exact hx) ho (by rw [hst]; rfl) (fun _ => hfl.1.1) (by rw [← evT_ev]; exact hy) (.inr rfl)
                    (by rw [← ht.2.1]; exact Nat.eq_of_beq_eq_true hfl.1.2) hfl.2 hle
                  rw [hst] at hOp
                  exact ⟨c1, value hOp ih.2⟩
                · exact s.elim
              · exact s.elim
            · exact s.elim
          · exact s.elim
        · exact s.elim
      · rename_i x
        split at s
        · rename_i ty v hx
          obtain ⟨c1, c2⟩ := andL_all s
          exact ⟨c1, SOps.panic rfl hg (by rw [← evT_ev]; exact hx) c2⟩
        · exact s.elim
      · rename_i ty x y
        split at s
        · rename_i cells len hx
          split at s
          · rename_i k n ti hy hti
            split at s
            · rename_i e hdt
              split at s
              · rename_i te hte
                split at s
                · exact s.elim
                · rename_i hne
                  obtain ⟨c1, hcl, h0, h1, el, hel, s⟩ := andL_all s
                  subst hel
                  have ih := IH s
                  have g1 := Env.at hti
                  have g2 := Env.at hte
                  obtain ⟨d, hd'⟩ := atOf_some (P := E.P) (t := e) (by rw [← g2.1]; exact hne)
                  exact ⟨c1, value (OpV.indexAddrIm rfl (atOf_sl (by rw [← g1.1]; exact hdt)) hd' g2.2.1.symm hcl (by rw [← evT_ev]; exact hx) (by rw [← evT_ev]; exact hy) h0 h1) ih.2⟩
              · exact s.elim
            · exact s.elim
          · exact s.elim
        · rename_i cells hx
          split at s
          · rename_i k n ti hy hti
            split at s
            · rename_i len e hdt
              split at s
              · rename_i te hte
                split at s
                · exact s.elim
                · rename_i hne
                  obtain ⟨c1, hcl, h0, h1, el, hel, s⟩ := andL_all s
                  subst hel
                  have ih := IH s
                  have g1 := Env.at hti
                  have g2 := Env.at hte
                  obtain ⟨d, hd'⟩ := atOf_some (P := E.P) (t := e) (by rw [← g2.1]; exact hne)
                  exact ⟨c1, value (OpV.indexAddrArr rfl (atOf_arr (by rw [← g1.1]; exact hdt)) hd' g2.2.1.symm hcl (by rw [← evT_ev]; exact hx) (by rw [← evT_ev]; exact hy) h0 h1) ih.2⟩
              · exact s.elim
            · exact s.elim
          · exact s.elim
        · have hev : evT E.P t = (AF.mk t N D).ev E.P := funext (evT_ev E t N D)
          rw [hev] at s
          split at s
          · rename_i cs' v he
            rw [force_eq] at s
            have ih := IH s
            obtain ⟨c1, c2⟩ := AllP_append ih.1
            exact ⟨c1, value (aval_val he c2) ih.2⟩
          · obtain ⟨v, h', hv, s⟩ := s
            rw [force_eq] at s
            have ih := IH s
            exact ⟨ih.1, value hv ih.2⟩
      · rename_i fo args tys
        split at s
        · rename_i k first caps hf
          rw [forceL_eq] at s
          obtain ⟨c1, c2⟩ := andL_all s
          refine ⟨c1, SOps.call rfl hg (by rw [← evT_ev]; exact hf) hd ?_⟩
          have hm : args.toList.map ((AF.mk t N D).ev E.P) = args.toList.map (evT E.P t) := List.map_congr_left fun x _ => (evT_ev E t N D x).symm
          rw [hm]
          refine (c2.sc.conv).mono ?_
          intro r h' hr
          cases r with
          | ret v =>
            show SOps m E.P ops Q l ((AF.mk t N D).put dst v) h'
            simp only [force_eq, forceH_eq] at hr
            rw [putT_put]; exact (IH hr).2
          | panic v => simp only [force_eq, forceH_eq] at hr; exact hr
        · exact s.elim
      · rename_i args tys
        split at s
        · rename_i x ty hx0 ht0
          have e1 : args = #[x] := by rw [← Array.toArray_toList (xs := args), hx0]
          have e2 : tys = #[ty] := by rw [← Array.toArray_toList (xs := tys), ht0]
          subst e1; subst e2
          split at s
          · rename_i ti str hti hx
            split at s
            · rename_i hdt
              have ih := IH s
              exact ⟨ih.1, value (OpV.lenStr rfl (atOf_str (by rw [← (Env.at hti).1]; exact hdt)) (by rw [← evT_ev]; exact hx)) ih.2⟩
            · exact s.elim
          · rename_i ti ad len esz tg hti hx
            split at s
            · rename_i e hdt
              have ih := IH s
              exact ⟨ih.1, value (OpV.lenSl rfl (atOf_sl (by rw [← (Env.at hti).1]; exact hdt)) (by rw [← evT_ev]; exact hx)) ih.2⟩
            · exact s.elim
          · rename_i ti cs0 len hti hx
            split at s
            · rename_i e hdt
              have ih := IH s
              exact ⟨ih.1, value (OpV.lenIm rfl (atOf_sl (by rw [← (Env.at hti).1]; exact hdt)) (by rw [← evT_ev]; exact hx)) ih.2⟩
            · exact s.elim
          · exact s.elim
        · exact s.elim
      · rename_i args tys
        split at s
        · rename_i x y ty ty' hx0 ht0
          have e1 : args = #[x, y] := by rw [← Array.toArray_toList (xs := args), hx0]
          have e2 : tys = #[ty, ty'] := by rw [← Array.toArray_toList (xs := tys), ht0]
          subst e1; subst e2
          split at s
          · exact s.elim
          rename_i htt
          have htt := Nat.eq_of_beq_eq_true htt
          subst htt
          split at s
          · exact s.elim
          rename_i ti hti
          split at s
          · rename_i e hdt
            split at s
            · rename_i te hte
              split at s
              · rename_i zero hz
                split at s
                · rename_i hzl
                  have hzl := Nat.eq_of_beq_eq_true hzl
                  have g1 := Env.at hti
                  have g2 := Env.at hte
                  have gs := atOf_sl (P := E.P) (t := ty) (by rw [← g1.1]; exact hdt)
                  have gz : zeroA E.P e = some zero := by rw [← g2.2.2.2.2]; exact hz
                  split at s
                  · rename_i n esz0 tg cs' news m' fl hx hsrc
                    have hcell : E.P.cellsOf e = te.size := g2.2.1.symm
                    have hzl' : zero.length = te.size := hzl.symm
                    · split at s
                      · split at s
                        · exact s.elim
                        rename_i hne
                        have gd := atOf_some (P := E.P) (t := e) (by rw [← g2.1]; exact hne)
                        obtain ⟨c, hn, s2⟩ := andL_all s
                        clear s
                        obtain ⟨c1, c2⟩ := AllP_append c
                        subst hn
                        have ih := IH s2
                        obtain ⟨d, hd'⟩ := gd
                        have hc := (srcT_cells hsrc c2).1
                        have := OpV.appendNilNil (a := ⟨t, N, D⟩) (h := h) (o := ⟨dst, .call { callee := .builtin .append, args := #[x, y], argTypes := #[ty, ty] }, oty, opos, oafter, guard⟩) rfl gs hd' (by rw [← evT_ev]; exact hx) (by rw [← evT_ev]; exact hc)
                        refine ⟨c1, SOps.value hg (v := .sl none 0 te.size tg) ?_ hd (by rw [putT_put]; exact ih.2)⟩
                        intro κ act w ha hh
                        obtain ⟨r, val, w', κ', k1, k2, k3, k4, k5⟩ := this κ act w ha hh
                        exact ⟨r, val, w', κ', k1, k2, by simpa only [VR] using k3, k4, k5⟩
                      · rename_i m'
                        have nilcase : ∀ (k : AKind) (news' : List AV), (news' = news ∨ news' = nilL news) → k.own = true → (k = .vec → (news' = nilL news ∧ flatL news' = true) ∨ (news' = news ∧ fl = true)) → AllP cs' → n = 0 → (m' + 1) * te.bytes ≤ 140737488355328 → m' + 1 ≤ 9223372036854775807 →
                            OpV E.P ⟨t, N, D⟩ h ⟨dst, .call { callee := .builtin .append, args := #[x, y], argTypes := #[ty, ty] }, oty, opos, oafter, guard⟩ (.sl (some (h.length, 0)) (m' + 1) te.size false) (h ++ [⟨e, news', k⟩]) := by
                          intro k news' hcn hk0 hk c2 hn hb hb2
                          subst hn
                          obtain ⟨hc, hfl⟩ := srcT_cells hsrc c2
                          rw [g2.2.2.1] at hb
                          refine OpV.appendNil rfl gs gz hcell hzl' (by rw [← evT_ev]; exact hx) (by rw [← evT_ev]; exact hc) hcn hk0 (fun e => ?_) (Nat.succ_pos _) hb hb2
                          rcases hk e with h1 | h1
                          · exact .inl h1
                          · exact .inr ⟨h1.1, .inr (by rw [← evT_ev]; exact hfl h1.2)⟩
                        split at s
                        · obtain ⟨c, hn, hb, hb2, s⟩ := andL_all s
                          obtain ⟨c1, c2⟩ := AllP_append c
                          rw [lenK_eq, forceH_eq] at s
                          exact ⟨c1, value (nilcase .vec _ (.inl rfl) rfl (fun _ => .inr ⟨rfl, rfl⟩) c2 hn hb hb2) (IH s).2⟩
                        · rw [forceL_eq] at s
                          split at s
                          · rename_i hfl
                            obtain ⟨c, hn, hb, hb2, s⟩ := andL_all s
                            obtain ⟨c1, c2⟩ := AllP_append c
                            rw [lenK_eq, forceH_eq] at s
                            exact ⟨c1, value (nilcase .vec _ (.inr rfl) rfl (fun _ => .inl ⟨rfl, hfl⟩) c2 hn hb hb2) (IH s).2⟩
                          · obtain ⟨c, hn, hb, hb2, s⟩ := andL_all s
                            obtain ⟨c1, c2⟩ := AllP_append c
                            rw [lenK_eq, forceH_eq] at s
                            exact ⟨c1, value (nilcase .rw _ (.inr rfl) rfl (fun e => by cases e) c2 hn hb hb2) (IH s).2⟩
                  · rename_i id1 off1 n esz1 tg cs' news m' fl hx hsrc
                    split at s
                    · rename_i hsz
                      have hsz1 := Nat.eq_of_beq_eq_true hsz
                      rw [hsz1] at hsrc
                      have hcell : E.P.cellsOf e = esz1 := by rw [← g2.2.1]; exact hsz1
                      have hzl' : zero.length = esz1 := by rw [← hzl]; exact hsz1
                      split at s
                      · rename_i ob ho
                        have app : ∀ (k : AKind) (news' : List AV), (news' = news ∨ news' = nilL news) → k.own = true → ob.st.own = true → (Nat.beq ob.ty e && Nat.beq off1 0 && !tg) = true → (k = .vec → ob.st = .vec ∧ ((news' = nilL news ∧ flatL news' = true) ∨ (news' = news ∧ fl = true))) → AllP cs' → n * esz1 ≤ ob.cells.length → news'.all AV.one = true → 0 < m' → (n + m') * te.bytes ≤ 140737488355328 → n + m' ≤ 9223372036854775807 →
                            OpV E.P ⟨t, N, D⟩ h ⟨dst, .call { callee := .builtin .append, args := #[x, y], argTypes := #[ty, ty] }, oty, opos, oafter, guard⟩ (.sl (some (h.length, 0)) (n + m') esz1 false) (h.set id1 deadObj ++ [⟨e, ob.cells.take (n * esz1) ++ news', k⟩]) := by
                          intro k news' hcn hk0 hown hcond hk c2 hle hone hm hb hb2
                          simp only [Bool.and_eq_true, Bool.not_eq_true'] at hcond
                          have e1 := Nat.eq_of_beq_eq_true hcond.1.1
                          have e2 := Nat.eq_of_beq_eq_true hcond.1.2
                          have e3 := hcond.2
                          subst e2; subst e3
                          obtain ⟨hc, hfl⟩ := srcT_cells hsrc c2
                          rw [g2.2.2.1] at hb
                          refine OpV.append rfl gs gz hcell hzl' (by rw [← evT_ev]; exact hx) ho hown e1 hle (by rw [← evT_ev]; exact hc) hcn hk0 (fun e => ⟨(hk e).1, ?_⟩) hone hm hb hb2
                          rcases (hk e).2 with h1 | h1
                          · exact .inl h1
                          · exact .inr ⟨h1.1, .inr (by rw [← evT_ev]; exact hfl h1.2)⟩
                        split at s
                        · rename_i hst hcond
                          rw [forceL_eq] at s
                          split at s
                          · rename_i hb0
                            simp only [Bool.and_eq_true] at hb0
                            obtain ⟨c, hb, hb2, s⟩ := andL_all s
                            obtain ⟨c1, c2⟩ := AllP_append c
                            rw [lenK_eq, forceH_eq] at s
                            exact ⟨c1, value (app .rw _ (.inl rfl) rfl (by rw [hst]; rfl) hcond (fun e => by cases e) c2 (Nat.le_of_ble_eq_true hb0.1.1) hb0.1.2 (Nat.le_of_ble_eq_true hb0.2) hb hb2) (IH s).2⟩
                          · exact s.elim
                        · rename_i hst hcond
                          split at s
                          · obtain ⟨c, hle, hone, hm, hb, hb2, s⟩ := andL_all s
                            obtain ⟨c1, c2⟩ := AllP_append c
                            rw [lenK_eq, forceH_eq] at s
                            exact ⟨c1, value (app .vec _ (.inl rfl) rfl (by rw [hst]; rfl) hcond (fun _ => ⟨hst, .inr ⟨rfl, rfl⟩⟩) c2 hle hone hm hb hb2) (IH s).2⟩
                          · rw [forceL_eq] at s
                            split at s
                            · rename_i hb0
                              simp only [Bool.and_eq_true] at hb0
                              obtain ⟨c, hle, hb, hb2, s⟩ := andL_all s
                              obtain ⟨c1, c2⟩ := AllP_append c
                              rw [lenK_eq, forceH_eq] at s
                              exact ⟨c1, value (app .vec _ (.inr rfl) rfl (by rw [hst]; rfl) hcond (fun _ => ⟨hst, .inl ⟨rfl, hb0.1.1⟩⟩) c2 hle hb0.1.2 (Nat.le_of_ble_eq_true hb0.2) hb hb2) (IH s).2⟩
                            · exact s.elim
                        · exact s.elim
                      · exact s.elim
                    · exact s.elim
                  · obtain ⟨v, h', hv, s⟩ := s
                    rw [force_eq] at s
                    have ih := IH s
                    exact ⟨ih.1, value hv ih.2⟩
                · exact s.elim
              · exact s.elim
            · exact s.elim
          · exact s.elim
        · exact s.elim
      · have hev : evT E.P t = (AF.mk t N D).ev E.P := funext (evT_ev E t N D)
        rw [hev] at s
        split at s
        · rename_i cs' v he
          rw [force_eq] at s
          have ih := IH s
          obtain ⟨c1, c2⟩ := AllP_append ih.1
          exact ⟨c1, value (aval_val he c2) ih.2⟩
        · rename_i cs' v ob he
          rw [lenK_eq, force_eq, forceH_eq] at s
          have ih := IH s
          obtain ⟨c1, c2⟩ := AllP_append ih.1
          exact ⟨c1, value (aval_new he c2) ih.2⟩
        · obtain ⟨v, h', hv, s⟩ := s
          rw [force_eq] at s
          have ih := IH s
          exact ⟨ih.1, value hv ih.2⟩

theorem TO.sound {m : Nat} {E : Env} {N : Nat} {ops : Array Oper} {Q : AX → AF → AHeap → Prop} : ∀ {l : List Oper}, Snd m E N ops Q l (TO E N (ops.toList.map (·.dst)) Q l)
  | [], cs, D, t, h, s => ⟨(andL_all s).1, SOps.nil (andL_all s).2⟩
  | o :: l, cs, D, t, h, s => by
    change TOs E N (ops.toList.map (·.dst)) Q (TO E N (ops.toList.map (·.dst)) Q l) o cs D t h at s
    unfold TOs at s
    split at s
    · exact TOc.sound (TO.sound (l := l)) s
    · rw [forceH_eq] at s
      obtain ⟨h1, h2⟩ := TOc.sound (TO.sound (l := l)) s
      exact ⟨h1, SOps.step (HStep.frz _) h2⟩

/-- Code, computed but for its loops and calls: the recursor itself. -/
def T (m : Nat) (E : Env) (c : Code) : (AX → AF → AHeap → Prop) → AF → AHeap → Prop :=
  @Code.rec (fun _ => (AX → AF → AHeap → Prop) → AF → AHeap → Prop)
    (fun Q a h => Q .normal a h)
    (fun id ops draw Q a h => match draw with
      | true => Rest m E.P (.region id ops true) Q a h
      | false => match a with
        | ⟨t, N, D⟩ => TO E N (ops.toList.map (·.dst)) Q ops.toList [] D t h)
    (fun _ _ x y Q a h => x (thenA (y Q) Q) a h)
    (fun c _ _ x y Q a h => match a with
      | ⟨t, N, D⟩ => match evT E.P t c with
        | .b b => match b with
          | true => x Q ⟨t, N, D⟩ h
          | false => y Q ⟨t, N, D⟩ h
        | _ => False)
    (fun id _ x Q a h => x (blockA id Q) a h)
    (fun c _ Q a h => Loop m E.P c Q a h)
    (fun f params asg body _ _ Q a h => Rest m E.P (.rangeFunc f params asg body) Q a h)
    (fun id Q a h => Q (.exit id) a h)
    (fun body _ Q a h => Rest m E.P (.scope body) Q a h)
    (fun _ Q a h => Q .normal a h)
    (fun l Q a h => Rest m E.P (.goto l) Q a h)
    (fun Q a h => Q .ret a h)
    (fun why Q a h => Rest m E.P (.refuse why) Q a h) c

theorem thenA_mono {N N' : AF → AHeap → Prop} {Q : AX → AF → AHeap → Prop} (hn : ∀ a h, N a h → N' a h) : ∀ x a h, thenA N Q x a h → thenA N' Q x a h := by
  intro x a h hx
  cases x <;> first | exact hn _ _ hx | exact hx

theorem T.sound {m : Nat} {E : Env} : ∀ {c : Code} {Q : AX → AF → AHeap → Prop} {a : AF} {h : AHeap}, T m E c Q a h → SWP m E.P c Q a h
  | .skip, _, _, _, s => SWP.skip s
  | .seq x y, Q, a, h, s => SWP.seq (SWP.mono (Q := thenA (T m E y Q) Q) (T.sound s) (thenA_mono (N := T m E y Q) (N' := SWP m E.P y Q) fun _ _ => T.sound))
  | .cond c x y, Q, ⟨t, N, D⟩, h, s => by
    change (match evT E.P t c with
        | .b b => match b with
          | true => T m E x Q ⟨t, N, D⟩ h
          | false => T m E y Q ⟨t, N, D⟩ h
        | _ => False) at s
    split at s
    · rename_i b hb
      have hb' : (AF.mk t N D).ev E.P c = .b b := by rw [← hb]; exact (evT_ev E t N D c).symm
      cases b with
      | true => exact SWP.cond hb' (fun _ => T.sound s) (fun e => by cases e)
      | false => exact SWP.cond hb' (fun e => by cases e) (fun _ => T.sound s)
    · exact s.elim
  | .block _ _, _, _, _, s => SWP.block (T.sound s)
  | .loop _, _, _, _, s => SLWP.loop s.lp
  | .exit _, _, _, _, s => SWP.exit s
  | .label _, _, _, _, s => SWP.label s
  | .ret, _, _, _, s => SWP.ret s
  | .region _ _ false, _, ⟨_, _, _⟩, _, s => SOps.region (TO.sound s).2
  | .region _ _ true, _, _, _, s => s.wp
  | .rangeFunc _ _ _ _, _, _, _, s => s.wp
  | .scope _, _, _, _, s => s.wp
  | .goto _, _, _, _, s => s.wp
  | .refuse _, _, _, _, s => s.wp

theorem Loop.round {m : Nat} {E : Env} {c : Code} {Q : AX → AF → AHeap → Prop} {a : AF} {h : AHeap} (s : T m E c (thenA (Loop m E.P c Q) Q) a h) : Loop m E.P c Q a h :=
  ⟨SLWP.round ((T.sound s).mono (thenA_mono fun _ _ l => l.lp))⟩

/-- The results of a body. -/
def resT (E : Env) (t : Nat → AV) (h : AHeap) : List ResultVar → (List AV → Prop) → Prop
  | [], k => k []
  | .tmp i :: r, k => force (t i) fun v => resT E t h r fun vs => k (v :: vs)
  | .cell i ty :: r, k =>
    match t i, E.ty ty with
    | .p (some (id, off)), some ti => match h[id]? with
      | some ob => match ob.st with
        | .rw => match aldT ti ob.cells off with
          | some v => force v fun v => resT E t h r fun vs => k (v :: vs)
          | none => False
        | .vec => ∃ v, aldT ti ob.cells off = some v ∧ force v fun v => resT E t h r fun vs => k (v :: vs)
        | .frz => ∃ v, aldT ti ob.cells off = some v ∧ force v fun v => resT E t h r fun vs => k (v :: vs)
        | .dead => False
      | none => False
    | _, _ => False

theorem resT_ares {E : Env} {t : Nat → AV} {N : Nat} {D : List (FuncId × List AV)} {h : AHeap} : ∀ {rs : List ResultVar} {k : List AV → Prop}, resT E t h rs k → ∃ vs, aresL E.P ⟨t, N, D⟩ h rs = some vs ∧ k vs
  | [], k, s => ⟨[], rfl, s⟩
  | .tmp i :: r, k, s => by
    unfold resT at s
    rw [force_eq] at s
    obtain ⟨vs, h1, h2⟩ := resT_ares (N := N) (D := D) s
    exact ⟨_, by simp only [aresL, ares1, h1], h2⟩
  | .cell i ty :: r, k, s => by
    unfold resT at s
    split at s
    · rename_i id off ti hi hti
      split at s
      · rename_i ob ho
        have go : ∀ v, ob.st ≠ .dead → aldT ti ob.cells off = some v → (resT E t h r fun vs => k (v :: vs)) → ∃ vs, aresL E.P ⟨t, N, D⟩ h (.cell i ty :: r) = some vs ∧ k vs := by
          intro v hd hv s
          have hv := aldT_ald hti ho hd hv
          obtain ⟨vs, h1, h2⟩ := resT_ares (N := N) (D := D) s
          exact ⟨_, by simp only [aresL, ares1, h1, hi, hv], h2⟩
        split at s
        · rename_i hst
          split at s
          · rename_i v hv
            rw [force_eq] at s
            exact go v (by rw [hst]; exact fun e => by cases e) hv s
          · exact s.elim
        · rename_i hst
          obtain ⟨v, hv, s⟩ := s
          rw [force_eq] at s
          exact go v (by rw [hst]; exact fun e => by cases e) hv s
        · rename_i hst
          obtain ⟨v, hv, s⟩ := s
          rw [force_eq] at s
          exact go v (by rw [hst]; exact fun e => by cases e) hv s
        · exact s.elim
      · exact s.elim
    · exact s.elim

def bodyT (m : Nat) (E : Env) (rs : List ResultVar) (R : AE → AHeap → Prop) : AX → AF → AHeap → Prop
  | .normal, a, h | .ret, a, h => match a with
    | ⟨t, _, D⟩ => match D with
      | [] => resT E t h rs fun vs => match vs with
        | [v] => Out E.P m R (.ret v) h
        | vs => Out E.P m R (.ret (.tu vs)) h
      | _ => False
  | .panic v, a, h => match a with
    | ⟨_, _, D⟩ => match D with
      | [] => Out E.P m R (.panic v) h
      | _ => False
  | _, _, _ => False

theorem ret_bodyA {E : Env} {fn : Func} {R : AE → AHeap → Prop} {rs : List ResultVar} (hr : fn.results.toList = rs) {t : Nat → AV} {N : Nat} {h : AHeap} (s : resT E t h rs fun vs => match vs with
        | [v] => R (.ret v) h
        | vs => R (.ret (.tu vs)) h) : ∃ v, ares E.P fn ⟨t, N, []⟩ h = some v ∧ R (.ret v) h := by
  obtain ⟨vs, h1, h2⟩ := resT_ares (N := N) (D := []) s
  unfold ares
  rw [hr, h1]
  match vs, h2 with
  | [], h2 => exact ⟨_, rfl, h2⟩
  | [v], h2 => exact ⟨_, rfl, h2⟩
  | v :: u :: r, h2 => exact ⟨_, rfl, h2⟩

theorem bodyT_bodyA {m : Nat} {E : Env} {fn : Func} {R : AE → AHeap → Prop} {rs : List ResultVar} (hr : fn.results.toList = rs) {x : AX} {a : AF} {h : AHeap} (s : bodyT m E rs R x a h) : bodyA E.P fn (Out E.P m R) x a h := by
  obtain ⟨t, N, D⟩ := a
  cases D with
  | nil =>
    cases x with
    | normal => exact ⟨rfl, ret_bodyA hr s⟩
    | ret => exact ⟨rfl, ret_bodyA hr s⟩
    | panic v => exact ⟨rfl, s⟩
    | exit => exact s.elim
    | goto => exact s.elim
  | cons =>
    cases x <;> exact s.elim

theorem Call.of_body {E : Env} {f : FuncId} {fn : Func} {c : Code} {args : List AV} {N : Nat} {rs : List ResultVar} {R : AE → AHeap → Prop} {h : AHeap} (hf : E.P.funcs[f]? = some fn) (hN : fn.ntmps = N) (hr : fn.results = rs.toArray) (hb : fn.body = some c)
    (hname : (fn.name == "runtime.NumGoroutine") = false) (hn : Nat.ble args.length N = true) (s : T h.length E c (bodyT h.length E rs R) ⟨fun j => (args[j]?).getD (.tu []), N, []⟩ h) : Call E.P f args R h := by
  subst hN
  exact ⟨SC.of_body hf hname hb (Nat.le_of_ble_eq_true hn) ((T.sound s).mono fun _ _ _ => bodyT_bodyA (by rw [hr]))⟩

theorem Call.mono {P : Program} {f : FuncId} {args : List AV} {R R' : AE → AHeap → Prop} {h : AHeap} (s : Call P f args R h) (hr : ∀ r h, R r h → R' r h) : Call P f args R' h := ⟨s.sc.mono hr⟩

/-- The objects of the greater heap that the smaller one speaks of. -/
def selH (H : AHeap) : AHeap → List Nat → AHeap
  | o :: r, i :: l => (match o.st with
    | .dead => o
    | _ => (H[i]?).getD ⟨0, [], .dead⟩) :: selH H r l
  | [], [] => []
  | _, _ => [⟨1, [], .dead⟩]

def renH (f : Nat → Option Nat) : AHeap → AHeap
  | [] => []
  | o :: r => (match o.st with
    | .dead => o
    | _ => o.ren f) :: renH f r

theorem fits_sel {H : AHeap} {f : Nat → Option Nat} : ∀ {hs : AHeap} {l : List Nat}, l.all (fun i => Nat.blt i H.length) = true → selH H hs l = renH f hs → hs.length = l.length → fits H f hs l
  | [], [], _, _, _ => trivial
  | [], _ :: _, _, _, h => by simp at h
  | _ :: _, [], _, _, h => by simp at h
  | o :: r, i :: l, hl, h, hn => by
    simp only [List.all_cons, Bool.and_eq_true] at hl
    simp only [selH, renH, List.cons.injEq] at h
    refine ⟨?_, fits_sel hl.2 h.2 (by simpa using hn)⟩
    have hlt := Nat.le_of_ble_eq_true hl.1
    split
    · trivial
    · rename_i hst
      have h1 := h.1
      split at h1
      · rename_i hst'; exact absurd hst' hst
      · rw [List.getElem?_eq_getElem hlt] at h1
        simp only [Option.getD_some] at h1
        refine ⟨H[i], List.getElem?_eq_getElem hlt, by rw [h1, AObj.ren_ty], by rw [h1], .inl (by rw [h1, AObj.ren_st])⟩

/-- What is computed of a renumbering into a greater heap. -/
def atOk (H hs : AHeap) (l : List Nat) (args : List AV) : Bool :=
  Nat.beq hs.length l.length && nodupB (lives hs l) && okRH (upF hs l H.length) hs && okRL (upF hs l H.length) args && l.all (fun i => Nat.blt i H.length)

/-- A call, by a contract that speaks of a smaller heap. -/
theorem Call.at {P : Program} {f : FuncId} {args as : List AV} {R R' : AE → AHeap → Prop} {hs H : AHeap} (s : Call P f args R hs) (l : List Nat) (hok : atOk H hs l args = true) (hsel : selH H hs l = renH (upF hs l H.length) hs)
    (hargs : as = renL (upF hs l H.length) args) (hR : ∀ r0 h0, R r0 h0 → R' (r0.map (AV.ren (upF hs l H.length))) (bigH l H hs h0)) : Call P f as R' H := by
  unfold atOk at hok
  simp only [Bool.and_eq_true] at hok
  subst hargs
  have hf := fits_sel hok.2 hsel (Nat.eq_of_beq_eq_true hok.1.1.1.1)
  refine ⟨(s.sc.frame l hf hok.1.1.1.2 (by simp only [Bool.and_eq_true]; exact ⟨hok.1.1.2, hok.1.2⟩)).mono ?_⟩
  rintro r h' ⟨r0, h0, h1, rfl, rfl⟩
  exact hR r0 h0 h1

theorem Call.frz {P : Program} {f : FuncId} {args : List AV} {R : AE → AHeap → Prop} {h : AHeap} (l : List Nat) (s : Call P f (args.map (AV.conv (frzHL h l))) R (frzC h l)) : Call P f args R h := ⟨s.sc.frz l⟩

theorem Loop.frz {m : Nat} {P : Program} {c : Code} {Q : AX → AF → AHeap → Prop} {t : Nat → AV} {N : Nat} {D : List (FuncId × List AV)} {h : AHeap} (l : List Nat) (s : Loop m P c Q ⟨fun j => (t j).conv (frzHL h l), N, mapD (AV.conv (frzHL h l)) D⟩ (frzC h l)) : Loop m P c Q ⟨t, N, D⟩ h :=
  ⟨SLWP.step (HStep.frz l) s.lp⟩

theorem Out.frz {P : Program} {m : Nat} {R : AE → AHeap → Prop} {r : AE} {h : AHeap} (l : List Nat) (s : Out P m R (r.map (AV.conv (frzHL h l))) (frzC h l)) : Out P m R r h := Out.step (HStep.frz l) s

theorem HStep.nil {P : Program} {m : Nat} {h : AHeap} : HStep P m h h AV.nilC := ⟨fun κ w hm hh => ⟨κ, hh, FrK.refl _ _ _ _, fun x v hx => VR.nilC hx⟩⟩

/-- nil slices in a result, as content. -/
theorem Out.nil {P : Program} {m : Nat} {R : AE → AHeap → Prop} {r : AE} {h : AHeap} (s : Out P m R (r.map AV.nilC) h) : Out P m R r h := Out.step HStep.nil s

theorem SC.nil {P : Program} {f : FuncId} {args : List AV} {R : AE → AHeap → Prop} {h : AHeap} (s : SC P f (nilL args) R h) : SC P f args R h := by
  rcases s with ⟨h1, s⟩ | s
  · exact .inl ⟨h1, fun κ vals w hv hh => s κ vals w (VRL.nilC hv) hh⟩
  · exact .inr fun κ vals w hv hh => s κ vals w (VRL.nilC hv) hh

/-- nil slices in a call's arguments, as content. -/
theorem Call.nil {P : Program} {f : FuncId} {args : List AV} {R : AE → AHeap → Prop} {h : AHeap} (s : Call P f (nilL args) R h) : Call P f args R h := ⟨s.sc.nil⟩

theorem Out.keep {P : Program} {m : Nat} {R : AE → AHeap → Prop} {r : AE} {h : AHeap} (l : List Nat) (hok : keepOk m h.length l = true) (s : R (r.map (AV.ren fun i => idx i l 0)) (keepH (fun i => idx i l 0) h l)) : Out P m R r h :=
  Out.step (HStep.keep l hok) (Out.here s)

end Go.S2
