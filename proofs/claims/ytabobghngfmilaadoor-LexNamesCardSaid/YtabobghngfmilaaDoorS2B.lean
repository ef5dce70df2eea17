/- Code over the abstract reading: what a piece of code does, rule by rule. -/
import Derived.Test.YtabobghngfmilaaDoorS2A
namespace Go.S2

/-- A frame: slots, how many, and the calls that are deferred. -/
structure AF where
  t : Nat → AV
  n : Nat
  d : List (FuncId × List AV)

def AF.put (a : AF) (dst : Option Tmp) (v : AV) : AF :=
  match dst with
  | some d => { a with t := fun j => bif Nat.beq j d then v else a.t j }
  | none => a

@[simp] theorem AF.put_t (a : AF) (d : Nat) (v : AV) (j : Nat) : (a.put (some d) v).t j = if j = d then v else a.t j := by
  show (bif Nat.beq j d then v else a.t j) = _
  by_cases h : j = d
  · subst h; rw [show Nat.beq j j = true from Nat.beq_refl j, if_pos rfl]; rfl
  · have : Nat.beq j d = false := by
      cases hb : Nat.beq j d with
      | false => rfl
      | true => exact absurd (Nat.eq_of_beq_eq_true hb) h
    rw [this, if_neg h]; rfl
@[simp] theorem AF.put_n (a : AF) (d : Option Nat) (v : AV) : (a.put d v).n = a.n := by cases d <;> rfl
@[simp] theorem AF.put_d (a : AF) (d : Option Nat) (v : AV) : (a.put d v).d = a.d := by cases d <;> rfl
@[simp] theorem AF.put_none (a : AF) (v : AV) : a.put none v = a := rfl

def DfR (κ : Cx) (x : FuncId × List AV) (d : Deferred) : Prop :=
  ∃ (C A : Array Value), d = { target := .fn (.func x.1) C, args := A } ∧ VRL κ x.2 (A ++ C).toList

inductive DfsR (κ : Cx) : List (FuncId × List AV) → List Deferred → Prop where
  | nil : DfsR κ [] []
  | cons {x d xs ds} : DfR κ x d → DfsR κ xs ds → DfsR κ (x :: xs) (d :: ds)

structure AR (κ : Cx) (a : AF) (act : Act) : Prop where
  size : act.tmps.size = a.n
  t : ∀ j, VR κ (a.t j) (act.tmps.getD j Go.undef)
  d : DfsR κ a.d act.defers

theorem DfsR.le {κ κ' : Cx} (hl : κ.le κ') {xs : List (FuncId × List AV)} {ds : List Deferred} (h : DfsR κ xs ds) : DfsR κ' xs ds := by
  induction h with
  | nil => exact .nil
  | cons h1 _ ih =>
    obtain ⟨C, A, h2, h3⟩ := h1
    exact .cons ⟨C, A, h2, h3.le hl⟩ ih

theorem AR.le {κ κ' : Cx} (hl : κ.le κ') {a : AF} {act : Act} (h : AR κ a act) : AR κ' a act := ⟨h.size, fun j => (h.t j).le hl, h.d.le hl⟩
theorem Fr.ar {κ κ' : Cx} {h h' : AHeap} {w w' : World} (f : Fr κ h w κ' h' w') {a : AF} {act : Act} (ha : AR κ a act) : AR κ' a act := ha.le f.le

def DstOk (a : AF) (dst : Option Tmp) : Prop :=
  match dst with
  | some d => d < a.n
  | none => True

theorem AR.put {κ : Cx} {a : AF} {act : Act} (h : AR κ a act) {dst : Option Tmp} (hd : DstOk a dst) {v : AV} {val : Value} (hv : VR κ v val) : AR κ (a.put dst v) (act.put dst val) := by
  cases dst with
  | none => exact h
  | some d =>
    simp only [DstOk] at hd
    refine ⟨by simp [Act.put, h.size], fun j => ?_, by simpa [Act.put] using h.d⟩
    simp only [AF.put_t, Act.put]
    have hs := h.size
    by_cases hjd : j = d
    · subst hjd
      rw [if_pos rfl, Array.getD_eq_getD_getElem?, Array.getElem?_setIfInBounds_self_of_lt (by rw [hs]; exact hd)]
      exact hv
    · rw [if_neg hjd, Array.getD_eq_getD_getElem?, Array.getElem?_setIfInBounds_ne (Ne.symm hjd), ← Array.getD_eq_getD_getElem?]
      exact h.t j

/-- Ways out of a piece of code. -/
inductive AX where
  | normal
  | exit (id : Nat)
  | goto (l : Nat)
  | ret
  | panic (v : AV)

def XR (κ : Cx) : AX → Exit → Prop
  | .normal, e => e = .normal
  | .exit id, e => e = .exit id
  | .goto l, e => e = .goto l
  | .ret, e => e = .ret
  | .panic v, e => ∃ y, e = .panic [{ v := y, recovered := false }] ∧ VR κ v y

theorem XR.le {κ κ' : Cx} (hl : κ.le κ') {x : AX} {e : Exit} (h : XR κ x e) : XR κ' x e := by
  cases x with
  | panic v => obtain ⟨y, h1, h2⟩ := h; exact ⟨y, h1, h2.le hl⟩
  | _ => exact h

theorem FrK.len {m : Nat} {κ κ' : Cx} {h h' : AHeap} {w w' : World} (f : FrK m κ h w κ' h' w') (hm : m ≤ κ.pl.length) : m ≤ κ'.pl.length := by
  cases m with
  | zero => exact Nat.zero_le _
  | succ m =>
    have := f.keep m (Nat.lt_succ_self m)
    rw [List.getElem?_eq_getElem (show m < κ.pl.length by omega)] at this
    exact (List.getElem?_eq_some_iff.1 this).1

def PostR (P : Program) (m : Nat) (κ : Cx) (h : AHeap) (w : World) (Q : AX → AF → AHeap → Prop) (e : Exit) (act : Act) (w' : World) : Prop :=
  ∃ x κ' a' h', XR κ' x e ∧ AR κ' a' act ∧ HR P κ' h' w' ∧ FrK m κ h w κ' h' w' ∧ Q x a' h'

def SWP (m : Nat) (P : Program) (c : Code) (Q : AX → AF → AHeap → Prop) (a : AF) (h : AHeap) : Prop :=
  ∀ κ act w, m ≤ κ.pl.length → AR κ a act → HR P κ h w → c.wp P (PostR P m κ h w Q) act w

theorem PostR.trans {P : Program} {m : Nat} {κ κ1 : Cx} {h h1 : AHeap} {w w1 : World} {Q : AX → AF → AHeap → Prop} (f : FrK m κ h w κ1 h1 w1) {e : Exit} {act : Act} {w' : World}
    (p : PostR P m κ1 h1 w1 Q e act w') : PostR P m κ h w Q e act w' := by
  obtain ⟨x, κ', a', h', h2, h3, h4, h5, h6⟩ := p
  exact ⟨x, κ', a', h', h2, h3, h4, f.trans h5, h6⟩

theorem PostR.mono {P : Program} {m : Nat} {κ : Cx} {h : AHeap} {w : World} {Q Q' : AX → AF → AHeap → Prop} (hq : ∀ x a h, Q x a h → Q' x a h) {e : Exit} {act : Act} {w' : World}
    (p : PostR P m κ h w Q e act w') : PostR P m κ h w Q' e act w' := by
  obtain ⟨x, κ', a', h', h2, h3, h4, h5, h6⟩ := p
  exact ⟨x, κ', a', h', h2, h3, h4, h5, hq _ _ _ h6⟩

theorem SWP.mono {m : Nat} {P : Program} {c : Code} {Q Q' : AX → AF → AHeap → Prop} {a : AF} {h : AHeap} (s : SWP m P c Q a h) (hq : ∀ x a h, Q x a h → Q' x a h) : SWP m P c Q' a h :=
  fun κ act w hm ha hh => wp_mono (s κ act w hm ha hh) fun _ _ _ p => p.mono hq

section
variable {m : Nat} {P : Program} {Q : AX → AF → AHeap → Prop} {a : AF} {h : AHeap}

theorem PostR.here {κ : Cx} {act : Act} {w : World} (ha : AR κ a act) (hh : HR P κ h w) {x : AX} {e : Exit} (hx : XR κ x e) (hq : Q x a h) : PostR P m κ h w Q e act w :=
  ⟨x, κ, a, h, hx, ha, hh, FrK.refl _ _ _ _, hq⟩

theorem SWP.skip (hq : Q .normal a h) : SWP m P .skip Q a h := fun _ _ _ _ ha hh => wp_skip (PostR.here ha hh (x := .normal) rfl hq)
theorem SWP.exit {id : Nat} (hq : Q (.exit id) a h) : SWP m P (.exit id) Q a h := fun _ _ _ _ ha hh => wp_exit (PostR.here ha hh (x := .exit id) rfl hq)
theorem SWP.ret (hq : Q .ret a h) : SWP m P .ret Q a h := fun _ _ _ _ ha hh => wp_ret (PostR.here ha hh (x := .ret) rfl hq)
theorem SWP.label {l : Nat} (hq : Q .normal a h) : SWP m P (.label l) Q a h := fun _ _ _ _ ha hh => wp_label (PostR.here ha hh (x := .normal) rfl hq)

/-- Behind the first piece: the next, or out. -/
def thenA (N : AF → AHeap → Prop) (Q : AX → AF → AHeap → Prop) : AX → AF → AHeap → Prop
  | .normal, a, h => N a h
  | .exit id, a, h => Q (.exit id) a h
  | .goto l, a, h => Q (.goto l) a h
  | .ret, a, h => Q .ret a h
  | .panic v, a, h => Q (.panic v) a h

theorem SWP.seq {x y : Code} (s : SWP m P x (thenA (SWP m P y Q) Q) a h) : SWP m P (.seq x y) Q a h := by
  intro κ act w hm ha hh
  refine wp_seq (wp_mono (s κ act w hm ha hh) ?_)
  rintro e act1 w1 ⟨x1, κ1, a1, h1, hx, ha1, hh1, hf, hq⟩
  cases x1 with
  | normal =>
    simp only [XR] at hx; subst hx
    exact wp_mono (hq κ1 act1 w1 (hf.len hm) ha1 hh1) fun _ _ _ p => p.trans hf
  | exit id => simp only [XR] at hx; subst hx; exact ⟨.exit id, κ1, a1, h1, rfl, ha1, hh1, hf, hq⟩
  | goto l => simp only [XR] at hx; subst hx; exact ⟨.goto l, κ1, a1, h1, rfl, ha1, hh1, hf, hq⟩
  | ret => simp only [XR] at hx; subst hx; exact ⟨.ret, κ1, a1, h1, rfl, ha1, hh1, hf, hq⟩
  | panic v =>
    obtain ⟨y, rfl, hy⟩ := hx
    exact ⟨.panic v, κ1, a1, h1, ⟨y, rfl, hy⟩, ha1, hh1, hf, hq⟩

def blockA (id : Nat) (Q : AX → AF → AHeap → Prop) : AX → AF → AHeap → Prop
  | .normal, a, h => Q .normal a h
  | .exit j, a, h => if j = id then Q .normal a h else Q (.exit j) a h
  | .goto l, a, h => Q (.goto l) a h
  | .ret, a, h => Q .ret a h
  | .panic v, a, h => Q (.panic v) a h

theorem SWP.block {id : Nat} {c : Code} (s : SWP m P c (blockA id Q) a h) : SWP m P (.block id c) Q a h := by
  intro κ act w hm ha hh
  refine wp_block (wp_mono (s κ act w hm ha hh) ?_)
  rintro e act1 w1 ⟨x1, κ1, a1, h1, hx, ha1, hh1, hf, hq⟩
  cases x1 with
  | normal => simp only [XR] at hx; subst hx; exact ⟨.normal, κ1, a1, h1, rfl, ha1, hh1, hf, hq⟩
  | exit j =>
    simp only [XR] at hx; subst hx
    simp only [Exit.inBlock]
    simp only [blockA] at hq
    split
    · rename_i hj; rw [if_pos hj] at hq; exact ⟨.normal, κ1, a1, h1, rfl, ha1, hh1, hf, hq⟩
    · rename_i hj; rw [if_neg hj] at hq; exact ⟨.exit j, κ1, a1, h1, rfl, ha1, hh1, hf, hq⟩
  | goto l => simp only [XR] at hx; subst hx; exact ⟨.goto l, κ1, a1, h1, rfl, ha1, hh1, hf, hq⟩
  | ret => simp only [XR] at hx; subst hx; exact ⟨.ret, κ1, a1, h1, rfl, ha1, hh1, hf, hq⟩
  | panic v =>
    obtain ⟨y, rfl, hy⟩ := hx
    exact ⟨.panic v, κ1, a1, h1, ⟨y, rfl, hy⟩, ha1, hh1, hf, hq⟩

/-! ### Loops: a round, and the loop again -/

def LWP (P : Program) (c : Code) (Q : Exit → Act → World → Prop) (a : Act) (w : World) : Prop :=
  ∀ (b : Frame) (k : List Item) (cs : List Frame), ∃ e a' w', Q e a' w' ∧ Arrives P (lone (b.at a (.code c :: .inLoop c :: k)) cs w) b k cs e a' w'

theorem LWP.loop {c : Code} {Q : Exit → Act → World → Prop} {act : Act} {w : World} (l : LWP P c Q act w) : (Code.loop c).wp P Q act w := by
  intro b k cs
  obtain ⟨e, a', w', hq, harr⟩ := l b k cs
  exact ⟨e, a', w', hq, .of_steps (.one step_loop) harr⟩

theorem LWP.round {c : Code} {Q : Exit → Act → World → Prop} {act : Act} {w : World} (r : c.wp P (Exit.then (LWP P c Q) Q) act w) : LWP P c Q act w := by
  intro b k cs
  obtain ⟨e, a₁, w₁, hq, harr⟩ := r b (.inLoop c :: k) cs
  cases e with
  | normal =>
    obtain ⟨e₂, a₂, w₂, hq₂, harr₂⟩ := hq b k cs
    exact ⟨e₂, a₂, w₂, hq₂, .of_steps (Steps.trans harr (.one step_inLoop)) harr₂⟩
  | exit id => exact ⟨_, a₁, w₁, hq, .pass (x := .inLoop c) rfl (fun _ _ => .inl (by simp)) harr⟩
  | goto l => exact ⟨_, a₁, w₁, hq, .pass (x := .inLoop c) rfl (fun _ _ => .inl (by simp)) harr⟩
  | ret => exact ⟨_, a₁, w₁, hq, .pass (x := .inLoop c) rfl (fun _ _ => .inl (by simp)) harr⟩
  | panic ch => exact ⟨_, a₁, w₁, hq, .pass (x := .inLoop c) rfl (fun _ _ => .inl (by simp)) harr⟩
  | outgrown => exact ⟨_, a₁, w₁, hq, .pass (x := .inLoop c) rfl (fun _ _ => .inl (by simp)) harr⟩

theorem LWP.mono {c : Code} {Q Q' : Exit → Act → World → Prop} {act : Act} {w : World} (l : LWP P c Q act w) (hq : ∀ e a w, Q e a w → Q' e a w) : LWP P c Q' act w :=
  fun b k cs => let ⟨e, a', w', q, r⟩ := l b k cs; ⟨e, a', w', hq _ _ _ q, r⟩

def SLWP (m : Nat) (P : Program) (c : Code) (Q : AX → AF → AHeap → Prop) (a : AF) (h : AHeap) : Prop :=
  ∀ κ act w, m ≤ κ.pl.length → AR κ a act → HR P κ h w → LWP P c (PostR P m κ h w Q) act w

theorem SLWP.loop {c : Code} (s : SLWP m P c Q a h) : SWP m P (.loop c) Q a h := fun κ act w hm ha hh => (s κ act w hm ha hh).loop

theorem SLWP.round {c : Code} (s : SWP m P c (thenA (SLWP m P c Q) Q) a h) : SLWP m P c Q a h := by
  intro κ act w hm ha hh
  refine LWP.round (wp_mono (s κ act w hm ha hh) ?_)
  rintro e act1 w1 ⟨x1, κ1, a1, h1, hx, ha1, hh1, hf, hq⟩
  cases x1 with
  | normal =>
    simp only [XR] at hx; subst hx
    exact (hq κ1 act1 w1 (hf.len hm) ha1 hh1).mono fun _ _ _ p => p.trans hf
  | exit id => simp only [XR] at hx; subst hx; exact ⟨.exit id, κ1, a1, h1, rfl, ha1, hh1, hf, hq⟩
  | goto l => simp only [XR] at hx; subst hx; exact ⟨.goto l, κ1, a1, h1, rfl, ha1, hh1, hf, hq⟩
  | ret => simp only [XR] at hx; subst hx; exact ⟨.ret, κ1, a1, h1, rfl, ha1, hh1, hf, hq⟩
  | panic v =>
    obtain ⟨y, rfl, hy⟩ := hx
    exact ⟨.panic v, κ1, a1, h1, ⟨y, rfl, hy⟩, ha1, hh1, hf, hq⟩

theorem SLWP.mono {c : Code} {Q' : AX → AF → AHeap → Prop} (s : SLWP m P c Q a h) (hq : ∀ x a h, Q x a h → Q' x a h) : SLWP m P c Q' a h :=
  fun κ act w hm ha hh => (s κ act w hm ha hh).mono fun _ _ _ p => p.mono hq

/-! ### Operands -/

def cV1 : Value → AV
  | .bool b => .b b
  | .int k n => .i k n
  | .string s => .s s.data.toList
  | .pointer none => .p none
  | .slice none 0 0 => .sl none 0 0 true
  | .nilFunc => .nofn
  | .nilIface => .noif
  | _ => .undef

def cV : Value → AV
  | .agg cs => .ag (cs.toList.map cV1)
  | v => cV1 v

theorem cV1_rel (κ : Cx) (v : Value) : VR κ (cV1 v) v := by
  unfold cV1
  split <;> simp [VR]

theorem cV_rel (κ : Cx) (v : Value) : VR κ (cV v) v := by
  unfold cV
  split
  · rename_i cs
    simp only [VR]
    refine ⟨cs.toList, by simp, VRL.of_get (by simp) fun j x v h1 h2 => ?_⟩
    rw [List.getElem?_map, h2] at h1
    simp at h1
    subst h1
    exact cV1_rel κ v
  · exact cV1_rel κ _

def AF.ev (a : AF) (P : Program) : Operand → AV
  | .tmp t => a.t t
  | .const v => cV v
  | .global g => match glOf P g with
    | some cs => .ip cs
    | none => .undef
  | .func f => .fn (.func f) [] []

theorem AR.ev {κ : Cx} {act : Act} {w : World} (ha : AR κ a act) (hh : HR P κ h w) (x : Operand) : VR κ (a.ev P x) (act.eval x) := by
  cases x with
  | tmp t =>
    exact ha.t t
  | const v => exact cV_rel κ v
  | global g =>
    simp only [AF.ev]
    split
    · rename_i cs hg
      obtain ⟨c, h1, h2, h3⟩ := hh.gl g cs hg
      simp only [VR]
      exact ⟨g, 0, c, h1, rfl, by omega, by simpa using h3⟩
    · simp [VR]
  | func f => simp only [AF.ev, Act.eval, VR]; exact ⟨[], [], rfl, .nil, .nil⟩

theorem SWP.cond {c : Operand} {x y : Code} {t : Bool} (hc : a.ev P c = .b t) (h1 : t = true → SWP m P x Q a h) (h2 : t = false → SWP m P y Q a h) : SWP m P (.cond c x y) Q a h := by
  intro κ act w hm ha hh
  have hv := ha.ev (P := P) hh c
  rw [hc] at hv
  simp only [VR] at hv
  exact wp_cond_split hv (fun ht => h1 ht κ act w hm ha hh) (fun ht => h2 ht κ act w hm ha hh)

/-! ### Operations, one behind the other -/

/-- One operation gives a value, and turns the heap. -/
def OpV (P : Program) (a : AF) (h : AHeap) (o : Oper) (v : AV) (h' : AHeap) : Prop :=
  ∀ κ act w, AR κ a act → HR P κ h w → ∃ (r : Next) (val : Value) (w' : World) (κ' : Cx), (execOp act.eval o).run P w = .ok r w' ∧ (r = .value val ∨ (r = .skip ∧ val = Go.undef)) ∧
    VR κ' v val ∧ HR P κ' h' w' ∧ Fr κ h w κ' h' w'

def SOps (m : Nat) (P : Program) (ops : Array Oper) (Q : AX → AF → AHeap → Prop) (l : List Oper) (a : AF) (h : AHeap) : Prop :=
  ∀ κ act w, m ≤ κ.pl.length → AR κ a act → HR P κ h w → wpList P ops (PostR P m κ h w Q) l act w

theorem wpList_mono {P : Program} {ops : Array Oper} {Q Q' : Exit → Act → World → Prop} (hq : ∀ e a w, Q e a w → Q' e a w) : ∀ {l : List Oper} {act : Act} {w : World}, wpList P ops Q l act w → wpList P ops Q' l act w
  | [], _, _, h => hq _ _ _ h
  | o :: rest, act, w, h => by
    unfold wpList at h ⊢
    split
    · rename_i hw
      rw [if_pos hw] at h
      rcases h with h | ⟨h, x, y, h1⟩
      · refine .inl ?_
        have h' := Oper.wp_mono (fun a w h => wpList_mono hq h) h
        unfold Oper.wp at h' ⊢
        generalize (execOp act.eval o).run P w = r at *
        cases r with
        | ok n w' =>
          cases n <;> simp only [Oper.upon] at h' ⊢ <;>
            first
              | exact h'
              | exact Calls.mono h' (fun e w'' he => by
                  cases e with
                  | returned v => exact he
                  | panicked c => exact hq _ _ _ he
                  | outgrown => obtain ⟨a, w, h⟩ := he; exact ⟨a, w, hq _ _ _ h⟩)
        | halt x w' => cases x <;> simp only [Oper.upon] at h' ⊢ <;> first | exact h' | exact hq _ _ _ h'
      · exact .inr ⟨h, x, y, hq _ _ _ h1⟩
    · rename_i hw
      rw [if_neg hw] at h
      exact wpList_mono hq h

theorem SOps.region {id : Nat} {ops : Array Oper} (s : SOps m P ops Q ops.toList a h) : SWP m P (.region id ops false) Q a h :=
  fun κ act w hm ha hh => wp_region_list (s κ act w hm ha hh)

theorem SOps.nil {ops : Array Oper} (hq : Q .normal a h) : SOps m P ops Q [] a h := fun _ _ _ _ ha hh => PostR.here ha hh (x := .normal) rfl hq

/-- Whether an operation is wanted (none: that cannot be told). -/
def aguard (ops : Array Oper) (a : AF) (o : Oper) : Option Bool :=
  match o.guard with
  | none => some true
  | some (j, want) =>
    match (ops[j]?).bind (·.dst) with
    | none => some false
    | some d =>
      match a.t d with
      | .b t => some (t == want)
      | .tu _ => some false
      | _ => none

theorem aguard_rel {ops : Array Oper} {κ : Cx} {act : Act} (ha : AR κ a act) {o : Oper} {g : Bool} (hg : aguard ops a o = some g) : Region.wanted o (yielded ops act.tmps) = g := by
  unfold aguard at hg
  unfold Region.wanted
  split at hg
  · rename_i h0; cases hg; simp [h0]
  · rename_i j want h0
    simp only [h0]
    unfold yielded
    split at hg
    · rename_i hd; cases hg; simp [hd]
    · rename_i d hd
      simp only [hd, Option.bind_some]
      have hv := ha.t d
      rw [Array.getD_eq_getD_getElem?] at hv
      split at hg
      · rename_i t ht
        rw [ht] at hv
        simp only [VR] at hv
        cases hg
        cases hd : act.tmps[d]? with
        | none => rw [hd] at hv; cases hv
        | some x =>
          rw [hd] at hv
          simp only [Option.getD_some] at hv
          rw [hv]
          cases t <;> cases want <;> rfl
      · rename_i vs ht
        rw [ht] at hv
        simp only [VR] at hv
        cases hg
        obtain ⟨C, hC, _⟩ := hv
        cases hd : act.tmps[d]? with
        | none => simp
        | some x =>
          rw [hd] at hC
          simp only [Option.getD_some] at hC
          rw [hC]
          simp
      · cases hg

theorem undef_rel (κ : Cx) : VR κ (.tu []) Go.undef := by simp only [VR]; exact ⟨[], rfl, .nil⟩

theorem SOps.skipped {ops : Array Oper} {o : Oper} {l : List Oper} (hg : aguard ops a o = some false) (hd : DstOk a o.dst) (s : SOps m P ops Q l (a.put o.dst (.tu [])) h) : SOps m P ops Q (o :: l) a h := by
  intro κ act w hm ha hh
  unfold wpList
  rw [if_neg (by rw [aguard_rel ha hg]; simp)]
  exact s κ _ w hm (ha.put hd (undef_rel κ)) hh

theorem SOps.value {ops : Array Oper} {o : Oper} {l : List Oper} {v : AV} {h' : AHeap} (hg : aguard ops a o = some true) (hv : OpV P a h o v h') (hd : DstOk a o.dst)
    (s : SOps m P ops Q l (a.put o.dst v) h') : SOps m P ops Q (o :: l) a h := by
  intro κ act w hm ha hh
  unfold wpList
  rw [if_pos (aguard_rel ha hg)]
  refine .inl ?_
  obtain ⟨r, val, w', κ', h1, h2, h3, h4, h5⟩ := hv κ act w ha hh
  unfold Oper.wp
  rw [h1]
  have key : wpList P ops (PostR P m κ h w Q) l (act.put o.dst val) w' :=
    wpList_mono (fun _ _ _ p => p.trans (h5.k hm)) (s κ' _ w' ((h5.k hm).len hm) ((h5.ar ha).put hd h3) h4)
  rcases h2 with rfl | ⟨rfl, rfl⟩
  · exact key
  · exact key

/-! ### Calls -/

inductive AE where
  | ret (v : AV)
  | panic (v : AV)

def ER (κ : Cx) : AE → Ending → Prop
  | .ret v, e => ∃ y, e = .returned y ∧ VR κ v y
  | .panic v, e => ∃ y, e = .panicked [{ v := y, recovered := false }] ∧ VR κ v y

/-- A call of a function with a body. -/
def SBody (P : Program) (f : FuncId) (args : List AV) (R : AE → AHeap → Prop) (h : AHeap) : Prop :=
  ∀ κ (vals : Array Value) w, VRL κ args vals.toList → HR P κ h w →
    Calls P f vals w fun e w' => ∃ r κ' h', ER κ' r e ∧ HR P κ' h' w' ∧ Fr κ h w κ' h' w' ∧ R r h'

/-- A call, of whatever function. -/
def SC (P : Program) (f : FuncId) (args : List AV) (R : AE → AHeap → Prop) (h : AHeap) : Prop :=
  ((∃ fn, P.funcs[f]? = some fn ∧ (fn.name == "runtime.NumGoroutine") = false ∧ fn.body.isNone = false) ∧ SBody P f args R h) ∨
  (∀ κ (vals : Array Value) w, VRL κ args vals.toList → HR P κ h w →
    ∃ v val κ' h' w', (callFunc f vals).run P w = .ok (.value val) w' ∧ VR κ' v val ∧ HR P κ' h' w' ∧ Fr κ h w κ' h' w' ∧ R (.ret v) h')

theorem SBody.mono {f : FuncId} {args : List AV} {R R' : AE → AHeap → Prop} (s : SBody P f args R h) (hr : ∀ r h, R r h → R' r h) : SBody P f args R' h :=
  fun κ vals w hv hh => (s κ vals w hv hh).mono fun _ _ ⟨r, κ', h', h1, h2, h3, h4⟩ => ⟨r, κ', h', h1, h2, h3, hr _ _ h4⟩

theorem SC.mono {f : FuncId} {args : List AV} {R R' : AE → AHeap → Prop} (s : SC P f args R h) (hr : ∀ r h, R r h → R' r h) : SC P f args R' h := by
  rcases s with ⟨h1, h2⟩ | h1
  · exact .inl ⟨h1, h2.mono hr⟩
  · refine .inr fun κ vals w hv hh => ?_
    obtain ⟨v, val, κ', h', w', h2, h3, h4, h5, h6⟩ := h1 κ vals w hv hh
    exact ⟨v, val, κ', h', w', h2, h3, h4, h5, hr _ _ h6⟩

theorem run_callFunc_enter {f : FuncId} {fn : Func} (h1 : P.funcs[f]? = some fn) (h2 : (fn.name == "runtime.NumGoroutine") = false) (h3 : fn.body.isNone = false) (vals : Array Value) (w : World) :
    (callFunc f vals).run P w = .ok (.enter f vals) w := by
  have h2' : ¬ fn.name = "runtime.NumGoroutine" := by simpa using h2
  have h3' : ¬ fn.body = none := by intro e; rw [e] at h3; simp at h3
  unfold callFunc
  simp [program, Sem.run, h1, h2', h3', bind, Sem.bind, pure]

theorem SOps.call {ops : Array Oper} {o : Oper} {l : List Oper} {fo : Operand} {args : Array Operand} {tys : Array TypeId} {k : FuncId} {first caps : List AV}
    (hop : o.op = .call { callee := .value fo, args := args, argTypes := tys }) (hg : aguard ops a o = some true) (hf : a.ev P fo = .fn (.func k) first caps) (hd : DstOk a o.dst)
    (s : SC P k (first ++ args.toList.map (a.ev P) ++ caps) (fun r h' => match r with
      | .ret v => SOps m P ops Q l (a.put o.dst v) h'
      | .panic v => Q (.panic v) a h') h) : SOps m P ops Q (o :: l) a h := by
  intro κ act w hm ha hh
  unfold wpList
  rw [if_pos (aguard_rel ha hg)]
  refine .inl ?_
  have hfv := ha.ev (P := P) hh fo
  rw [hf] at hfv
  simp only [VR] at hfv
  obtain ⟨F, C, hF, hFr, hCr⟩ := hfv
  have hargs : VRL κ (args.toList.map (a.ev P)) (args.toList.map act.eval) :=
    VRL.of_get (by simp) fun j x v h1 h2 => by
      rw [List.getElem?_map] at h1 h2
      cases hx : args.toList[j]? with
      | none => rw [hx] at h1; simp at h1
      | some y => rw [hx] at h1 h2; simp at h1 h2; subst h1; subst h2; exact ha.ev (P := P) hh y
  have hall : VRL κ (first ++ args.toList.map (a.ev P) ++ caps) (F.toArray ++ args.map act.eval ++ C.toArray).toList := by
    simpa using (hFr.append hargs).append hCr
  have hrun : (execOp act.eval o).run P w = (callFunc k (F.toArray ++ args.map act.eval ++ C.toArray)).run P w := by
    unfold execOp
    simp only [hop, resolve, hF, Deferred.ofValue]
    rfl
  unfold Oper.wp
  rw [hrun]
  rcases s with ⟨⟨fn, h1, h2, h3⟩, s⟩ | s
  · rw [run_callFunc_enter h1 h2 h3]
    simp only [Oper.upon]
    refine (s κ _ w hall hh).mono ?_
    rintro e w' ⟨r, κ', h', hr, hh', hfr, hR⟩
    cases r with
    | ret v =>
      obtain ⟨y, rfl, hy⟩ := hr
      exact wpList_mono (fun _ _ _ p => p.trans (hfr.k hm)) (hR κ' _ w' ((hfr.k hm).len hm) ((hfr.ar ha).put hd hy) hh')
    | panic v =>
      obtain ⟨y, rfl, hy⟩ := hr
      exact ⟨.panic v, κ', a, h', ⟨y, rfl, hy⟩, hfr.ar ha, hh', hfr.k hm, hR⟩
  · obtain ⟨v, val, κ', h', w', h1, h2, h3, h4, h5⟩ := s κ _ w hall hh
    rw [h1]
    exact wpList_mono (fun _ _ _ p => p.trans (h4.k hm)) (h5 κ' _ w' ((h4.k hm).len hm) ((h4.ar ha).put hd h2) h3)

theorem SOps.panic {ops : Array Oper} {o : Oper} {l : List Oper} {x : Operand} {t : TypeId} {v : AV} (hop : o.op = .panic x) (hg : aguard ops a o = some true) (hx : a.ev P x = .ifc t v)
    (hq : Q (.panic (.ifc t v)) a h) : SOps m P ops Q (o :: l) a h := by
  intro κ act w hm ha hh
  unfold wpList
  rw [if_pos (aguard_rel ha hg)]
  refine .inl ?_
  have hv := ha.ev (P := P) hh x
  rw [hx] at hv
  have hv' := hv
  simp only [VR] at hv
  obtain ⟨y, hy, hyr⟩ := hv
  have hrun : (execOp act.eval o).run P w = .halt (.panic (.iface t y)) w := by
    unfold execOp
    simp only [hop, hy, Instr.panic, goPanic]
    rfl
  unfold Oper.wp
  rw [hrun]
  exact ⟨.panic (.ifc t v), κ, a, h, ⟨_, rfl, by rw [hy] at hv'; exact hv'⟩, ha, hh, FrK.refl _ _ _ _, hq⟩

/-! ### A function's body -/

def ald (P : Program) (h : AHeap) (t : TypeId) (id off : Nat) : Option AV :=
  match h[id]? with
  | some o =>
    if o.st = .dead then none else
    match P.underlying t with
    | some (.struct _) | some (.array _ _) => if off + P.cellsOf t ≤ o.cells.length then some (.ag ((o.cells.drop off).take (P.cellsOf t))) else none
    | some _ => o.cells[off]?
    | none => none
  | none => none

/-- What is read of cells that nobody writes. -/
def aldI (P : Program) (t : TypeId) (cs : List AV) : Option AV :=
  match P.underlying t with
  | some (.struct _) | some (.array _ _) => if P.cellsOf t ≤ cs.length then some (.ag (cs.take (P.cellsOf t))) else none
  | some _ => cs[0]?
  | none => none

def ares1 (P : Program) (a : AF) (h : AHeap) : ResultVar → Option AV
  | .tmp t => some (a.t t)
  | .cell t ty => match a.t t with | .p (some (id, off)) => ald P h ty id off | _ => none

def aresL (P : Program) (a : AF) (h : AHeap) : List ResultVar → Option (List AV)
  | [] => some []
  | r :: rs => match ares1 P a h r, aresL P a h rs with
    | some v, some vs => some (v :: vs)
    | _, _ => none

def ares (P : Program) (fn : Func) (a : AF) (h : AHeap) : Option AV :=
  match aresL P a h fn.results.toList with
  | some [v] => some v
  | some vs => some (.tu vs)
  | none => none

def bodyA (P : Program) (fn : Func) (R : AE → AHeap → Prop) : AX → AF → AHeap → Prop
  | .normal, a, h | .ret, a, h => a.d = [] ∧ ∃ v, ares P fn a h = some v ∧ R (.ret v) h
  | .panic v, a, h => a.d = [] ∧ R (.panic v) h
  | _, _, _ => False

def AF.init (args : List AV) (n : Nat) : AF := { t := fun j => (args[j]?).getD (.tu []), n, d := [] }

end
end Go.S2
