/- Code, computed: what a piece of code does, as far as plain unfolding goes. -/
import Derived.Test.YtabobghngfmilaaDoorS2N
set_option linter.unusedSimpArgs false
set_option linter.unusedVariables false
namespace Go.S2

/-! ### What is known of types -/

inductive AT where
  | int (k : IntKind) | str | bool | sl (e : Nat) | arr (n e : Nat) | st (fs : List (Nat × Nat × Bool)) | ptr (e : Nat) | ifc | fn | other | none
  deriving DecidableEq

structure TI where
  d : AT
  size : Nat
  bytes : Nat
  infos : Bool
  zero : Option (List AV)

def aggOf (P : Program) (t : TypeId) : Bool :=
  match P.underlying t with
  | some d => aggD d
  | none => false

def atOf (P : Program) (t : TypeId) : AT :=
  match P.underlying t with
  | some (.int k) => .int k
  | some .string => .str
  | some .bool => .bool
  | some (.slice e) => .sl e
  | some (.array n e) => .arr n e
  | some (.struct fs) => .st (fs.toList.map fun f => (f.offset, P.cellsOf f.type, aggOf P f.type))
  | some (.pointer e) => .ptr e
  | some (.interface _) => .ifc
  | some (.func ..) => .fn
  | some _ => .other
  | Option.none => .none

def infOf (P : Program) (t : TypeId) : Bool :=
  match P.underlying t with
  | some (.struct fs) => infosOk P fs && fs.toList.all fun f => (P.underlying f.type).isSome
  | _ => true

def tiOf (P : Program) (t : TypeId) : TI := { d := atOf P t, size := P.cellsOf t, bytes := P.bytesOf t, infos := infOf P t, zero := zeroA P t }

structure Env where
  P : Program
  tab : List TI
  ok : ∀ (t : Nat) ti, tab[t]? = some ti → ti = tiOf P t

def Env.ty (E : Env) (t : Nat) : Option TI := E.tab[t]?

theorem Env.at {E : Env} {t : Nat} {ti : TI} (h : E.ty t = some ti) : ti.d = atOf E.P t ∧ ti.size = E.P.cellsOf t ∧ ti.bytes = E.P.bytesOf t ∧ ti.infos = infOf E.P t ∧ ti.zero = zeroA E.P t := by
  have := E.ok t ti h
  subst this
  exact ⟨rfl, rfl, rfl, rfl, rfl⟩

section
variable {P : Program} {t : TypeId}
theorem atOf_str (h : atOf P t = .str) : P.underlying t = some .string := by
  unfold atOf at h; split at h <;> first | assumption | cases h
theorem atOf_int {k : IntKind} (h : atOf P t = .int k) : P.underlying t = some (.int k) := by
  unfold atOf at h; split at h <;> first | (cases h; assumption) | cases h
theorem atOf_sl {e : Nat} (h : atOf P t = .sl e) : P.underlying t = some (.slice e) := by
  unfold atOf at h; split at h <;> first | (cases h; assumption) | cases h
theorem atOf_arr {n e : Nat} (h : atOf P t = .arr n e) : P.underlying t = some (.array n e) := by
  unfold atOf at h; split at h <;> first | (cases h; assumption) | cases h
theorem atOf_st {l : List (Nat × Nat × Bool)} (h : atOf P t = .st l) : ∃ fs : Array Field, P.underlying t = some (.struct fs) ∧ l = fs.toList.map fun f => (f.offset, P.cellsOf f.type, aggOf P f.type) := by
  unfold atOf at h; split at h <;> first | (rename_i fs hfs; cases h; exact ⟨fs, hfs, rfl⟩) | cases h
theorem atOf_some (h : atOf P t ≠ .none) : ∃ d, P.underlying t = some d := by
  unfold atOf at h; split at h <;> first | exact ⟨_, by assumption⟩ | exact absurd rfl h
theorem atOf_ifc (h : atOf P t ≠ .ifc) : ∀ ms, P.underlying t ≠ some (.interface ms) := by
  intro ms hm; unfold atOf at h; rw [hm] at h; exact h rfl
end

/-! ### Values whose head is seen -/

def force0 {α : Sort _} (v : AV) (k : AV → α) : α :=
  match v with
  | .undef => k .undef
  | .b x => k (.b x)
  | .i kd n => k (.i kd n)
  | .s x => k (.s x)
  | .p a => k (.p a)
  | .ip cs => k (.ip cs)
  | .sl a l e t => k (.sl a l e t)
  | .im cs l => k (.im cs l)
  | .fn f a b => k (.fn f a b)
  | .nofn => k .nofn
  | .ifc t x => k (.ifc t x)
  | .noif => k .noif
  | .ag cs => k (.ag cs)
  | .tu vs => k (.tu vs)

theorem force0_eq {α : Sort _} (v : AV) (k : AV → α) : force0 v k = k v := by
  unfold force0; split <;> rfl

def forceL0 {α : Sort _} : List AV → (List AV → α) → α
  | [], k => k []
  | x :: xs, k => force0 x fun x => forceL0 xs fun ys => k (x :: ys)

theorem forceL0_eq {α : Sort _} : ∀ (l : List AV) (k : List AV → α), forceL0 l k = k l
  | [], _ => rfl
  | x :: xs, k => by
    unfold forceL0
    rw [force0_eq, forceL0_eq xs]

def force1 {α : Sort _} (v : AV) (k : AV → α) : α :=
  match v with
  | .undef => k .undef
  | .b x => k (.b x)
  | .i kd n => k (.i kd n)
  | .s x => k (.s x)
  | .p a => k (.p a)
  | .ip cs => k (.ip cs)
  | .sl a l e t => k (.sl a l e t)
  | .im cs l => k (.im cs l)
  | .fn f a b => k (.fn f a b)
  | .nofn => k .nofn
  | .ifc t x => k (.ifc t x)
  | .noif => k .noif
  | .ag cs => forceL0 cs fun cs => k (.ag cs)
  | .tu vs => k (.tu vs)

theorem force1_eq {α : Sort _} (v : AV) (k : AV → α) : force1 v k = k v := by
  unfold force1; split <;> first | rfl | exact forceL0_eq _ _

def forceL {α : Sort _} : List AV → (List AV → α) → α
  | [], k => k []
  | x :: xs, k => force1 x fun x => forceL xs fun ys => k (x :: ys)

theorem forceL_eq {α : Sort _} : ∀ (l : List AV) (k : List AV → α), forceL l k = k l
  | [], _ => rfl
  | x :: xs, k => by
    unfold forceL
    rw [force1_eq, forceL_eq xs]

def force {α : Sort _} (v : AV) (k : AV → α) : α :=
  match v with
  | .undef => k .undef
  | .b x => k (.b x)
  | .i kd n => k (.i kd n)
  | .s x => k (.s x)
  | .p a => k (.p a)
  | .ip cs => k (.ip cs)
  | .sl a l e t => k (.sl a l e t)
  | .im cs l => k (.im cs l)
  | .fn f a b => k (.fn f a b)
  | .nofn => k .nofn
  | .ifc t x => k (.ifc t x)
  | .noif => k .noif
  | .ag cs => forceL0 cs fun cs => k (.ag cs)
  | .tu vs => forceL vs fun vs => k (.tu vs)

theorem force_eq {α : Sort _} (v : AV) (k : AV → α) : force v k = k v := by
  unfold force; split <;> first | rfl | exact forceL0_eq _ _ | exact forceL_eq _ _

def nums : List Nat := [0, 1, 2, 3, 4, 5, 6, 7, 8, 9, 10, 11, 12, 13, 14, 15, 16, 17, 18, 19, 20, 21, 22, 23, 24, 25, 26, 27, 28, 29, 30, 31, 32, 33, 34, 35, 36, 37, 38, 39, 40]

def lenG {α : Sort _} (o : AHeap) (k : Nat → α) : AHeap → List Nat → α
  | [], n :: _ => match Nat.beq n o.length with
    | true => k n
    | false => k o.length
  | _ :: r, _ :: ns => lenG o k r ns
  | _, [] => k o.length

theorem lenG_eq {α : Sort _} (o : AHeap) (k : Nat → α) : ∀ (r : AHeap) (ns : List Nat), lenG o k r ns = k o.length
  | [], n :: _ => by
    unfold lenG
    split
    · rename_i h; rw [Nat.eq_of_beq_eq_true h]
    · rfl
  | _ :: r, _ :: ns => by unfold lenG; exact lenG_eq o k r ns
  | [], [] => rfl
  | _ :: _, [] => rfl

/-- How many objects: a numeral. -/
def lenK {α : Sort _} (h : AHeap) (k : Nat → α) : α := lenG h k h nums
theorem lenK_eq {α : Sort _} (h : AHeap) (k : Nat → α) : lenK h k = k h.length := lenG_eq h k h nums

def forceO {α : Sort _} (o : AObj) (k : AObj → α) : α :=
  match o with
  | ⟨ty, cells, st⟩ => match st with
    | .rw => forceL cells fun cs => k ⟨ty, cs, .rw⟩
    | .vec => k ⟨ty, cells, .vec⟩
    | .frz => k ⟨ty, cells, .frz⟩
    | .dead => k ⟨ty, cells, .dead⟩

theorem forceO_eq {α : Sort _} (o : AObj) (k : AObj → α) : forceO o k = k o := by
  obtain ⟨ty, cells, st⟩ := o
  cases st <;> simp [forceO, forceL_eq]

def forceH {α : Sort _} : AHeap → (AHeap → α) → α
  | [], k => k []
  | x :: xs, k => forceO x fun x => forceH xs fun ys => k (x :: ys)

theorem forceH_eq {α : Sort _} : ∀ (l : AHeap) (k : AHeap → α), forceH l k = k l
  | [], _ => rfl
  | x :: xs, k => by
    unfold forceH
    rw [forceO_eq, forceH_eq xs]

def andL : List Prop → Prop → Prop
  | [], X => X
  | c :: r, X => c ∧ andL r X

def AllP : List Prop → Prop
  | [] => True
  | c :: r => c ∧ AllP r

theorem andL_all : ∀ {l : List Prop} {X : Prop}, andL l X → AllP l ∧ X
  | [], _, h => ⟨trivial, h⟩
  | _ :: _, _, h => ⟨⟨h.1, (andL_all h.2).1⟩, (andL_all h.2).2⟩

theorem AllP_append : ∀ {l r : List Prop}, AllP (l ++ r) → AllP l ∧ AllP r
  | [], _, h => ⟨trivial, h⟩
  | _ :: _, _, h => ⟨⟨h.1, (AllP_append h.2).1⟩, (AllP_append h.2).2⟩

/-! ### Operations -/

/-- What an operation gives: a value, under conditions; a new object, with a value that names it. -/
inductive OR where
  | val (cs : List Prop) (v : AV)
  | new (cs : List Prop) (v : Nat → AV) (ob : AObj)
  | no

def abinO (op : BinOp) (x y : AV) : OR :=
  match x, y with
  | .i k x, .i k' y =>
    match decide (k = k') with
    | true =>
      match op with
      | .add => .val [] (.i k (k.wrap (x + y)))
      | .sub => .val [] (.i k (k.wrap (x - y)))
      | .mul => .val [] (.i k (k.wrap (x * y)))
      | .quo => .val [y ≠ 0] (.i k (k.wrap (x.tdiv y)))
      | .rem => .val [y ≠ 0] (.i k (x.tmod y))
      | .eql => .val [] (.b (decide (x = y)))
      | .neq => .val [] (.b (!decide (x = y)))
      | .lss => .val [] (.b (decide (x < y)))
      | .leq => .val [] (.b (decide (x ≤ y)))
      | .gtr => .val [] (.b (decide (y < x)))
      | .geq => .val [] (.b (decide (y ≤ x)))
      | .and => .val [] (.i k (k.wrap (BitVec.ofInt k.bits x &&& BitVec.ofInt k.bits y).toNat))
      | .or => .val [] (.i k (k.wrap (BitVec.ofInt k.bits x ||| BitVec.ofInt k.bits y).toNat))
      | .xor => .val [] (.i k (k.wrap (BitVec.ofInt k.bits x ^^^ BitVec.ofInt k.bits y).toNat))
      | .andNot => .val [] (.i k (k.wrap (BitVec.ofInt k.bits x &&& ~~~BitVec.ofInt k.bits y).toNat))
      | .shl => .val [0 ≤ y] (.i k (k.wrap (x * 2 ^ min y.toNat k.bits)))
      | .shr => .val [0 ≤ y] (.i k (x.fdiv (2 ^ min y.toNat k.bits)))
    | false =>
      match op with
      | .shl => .val [0 ≤ y] (.i k (k.wrap (x * 2 ^ min y.toNat k.bits)))
      | .shr => .val [0 ≤ y] (.i k (x.fdiv (2 ^ min y.toNat k.bits)))
      | _ => .no
  | .s x, .s y =>
    match op with
    | .add => .val [x.length + y.length < 9223372036854775808] (.s (x ++ y))
    | .eql => .val [] (.b (decide (x = y)))
    | .neq => .val [] (.b (!decide (x = y)))
    | .lss => .val [] (.b (Op.bytesLess x y))
    | _ => .no
  | _, _ => .no

theorem abinO_abin {op : BinOp} {x y : AV} {cs : List Prop} {v : AV} (h : abinO op x y = .val cs v) (hc : AllP cs) : ∃ c, abin op x y = some (c, v) ∧ c := by
  unfold abinO at h
  split at h
  · rename_i k x k' y
    split at h
    · rename_i hk
      have hk := of_decide_eq_true hk
      subst hk
      cases op <;> simp only [OR.val.injEq, reduceCtorEq] at h <;> (try (cases h; done)) <;> obtain ⟨rfl, rfl⟩ := h <;> refine ⟨_, rfl, ?_⟩ <;> simp_all [AllP]
    · cases op <;> simp only [OR.val.injEq, reduceCtorEq] at h <;> (try (cases h; done)) <;> obtain ⟨rfl, rfl⟩ := h <;> refine ⟨_, rfl, ?_⟩ <;> simp_all [AllP]
  · cases op <;> simp only [OR.val.injEq, reduceCtorEq] at h <;> (try (cases h; done)) <;> obtain ⟨rfl, rfl⟩ := h <;> refine ⟨_, rfl, ?_⟩ <;> simp_all [AllP]
  · cases h

def isC : Operand → Bool
  | .const _ => true
  | _ => false

/-- == of what is not a number nor a string: at plain values, and against nil. -/
def aeqT (d : AT) (c : Bool) (x y : AV) : Option Bool :=
  match x, y with
  | .b x, .b y => match d with
    | .bool => some (x == y)
    | _ => none
  | .p none, .p none => match d with
    | .ptr _ => some true
    | _ => none
  | .p none, .p (some _) => match d with
    | .ptr _ => some false
    | _ => none
  | .p (some _), .p none => match d with
    | .ptr _ => some false
    | _ => none
  | .sl none _ _ _, .sl none _ _ _ => match d with
    | .sl _ => some true
    | _ => none
  | .sl none _ _ _, .sl (some _) _ _ _ => match d with
    | .sl _ => some false
    | _ => none
  | .sl (some _) _ _ _, .sl none _ _ _ => match d with
    | .sl _ => some false
    | _ => none
  | .nofn, .nofn => match d with
    | .fn => some true
    | _ => none
  | .nofn, .fn _ _ _ => match d with
    | .fn => some false
    | _ => none
  | .fn _ _ _, .nofn => match d with
    | .fn => some false
    | _ => none
  | .noif, .noif => match d with
    | .ifc => if c then some true else none
    | _ => none
  | .noif, .ifc _ _ => match d with
    | .ifc => some false
    | _ => none
  | .ifc _ _, .noif => match d with
    | .ifc => some false
    | _ => none
  | _, _ => none

theorem atOf_bool {P : Program} {t : TypeId} (h : atOf P t = .bool) : P.underlying t = some .bool := by
  unfold atOf at h; split at h <;> first | assumption | cases h
theorem atOf_ptr {P : Program} {t : TypeId} {e : Nat} (h : atOf P t = .ptr e) : P.underlying t = some (.pointer e) := by
  unfold atOf at h; split at h <;> first | (cases h; assumption) | cases h
theorem atOf_fn {P : Program} {t : TypeId} (h : atOf P t = .fn) : ∃ a b c, P.underlying t = some (.func a b c) := by
  unfold atOf at h; split at h <;> first | exact ⟨_, _, _, by assumption⟩ | cases h
theorem atOf_iface {P : Program} {t : TypeId} (h : atOf P t = .ifc) : ∃ ms, P.underlying t = some (.interface ms) := by
  unfold atOf at h; split at h <;> first | exact ⟨_, by assumption⟩ | cases h

theorem aeqT_sound {P : Program} {κ : Cx} {t : TypeId} {c b : Bool} {x y : AV} {vx vy : Value} (he : aeqT (atOf P t) c x y = some b) (hx : VR κ x vx) (hy : VR κ y vy) (w : World) :
    (Op.equal t vx vy).run P w = .ok b w ∧ (binOp .eql t vx vy = do pure (.bool (← Op.equal t vx vy))) ∧ (binOp .neq t vx vy = do pure (.bool (!(← Op.equal t vx vy)))) ∧ ((vx = .nilIface ∧ vy = .nilIface → c = true) ∧ (∀ cs, vx ≠ .agg cs)) := by
  obtain ⟨n, hn⟩ : ∃ n, ∀ a b, Op.equal t a b = Op.equalIn (n + 1) t a b := ⟨9999, fun _ _ => rfl⟩
  unfold aeqT at he
  split at he
  all_goals (try (cases he; done))
  all_goals
    split at he
    all_goals (try (cases he; done))
    rename_i hd
    simp only [VR] at hx hy
  · obtain rfl := hx; obtain rfl := hy
    cases he
    exact ⟨by rw [hn]; simp [Op.equalIn, run_underlying (atOf_bool hd)], rfl, rfl, by simp⟩
  · obtain rfl := hx; obtain rfl := hy
    cases he
    exact ⟨by rw [hn]; simp [Op.equalIn, run_underlying (atOf_ptr hd)], rfl, rfl, by simp⟩
  · obtain rfl := hx; obtain ⟨pl, _, rfl⟩ := hy
    cases he
    exact ⟨by rw [hn]; simp [Op.equalIn, run_underlying (atOf_ptr hd)], rfl, rfl, by simp⟩
  · obtain ⟨pl, _, rfl⟩ := hx; obtain rfl := hy
    cases he
    exact ⟨by rw [hn]; simp [Op.equalIn, run_underlying (atOf_ptr hd)], rfl, rfl, by simp⟩
  · obtain ⟨_, rfl⟩ := hx; obtain ⟨_, rfl⟩ := hy
    cases he
    exact ⟨by rw [hn]; simp [Op.equalIn, run_underlying (atOf_sl hd)], rfl, rfl, by simp⟩
  · obtain ⟨_, rfl⟩ := hx
    cases he
    rcases hy with ⟨_, _, _, ad, rfl⟩ | ⟨pl, cap, _, rfl, _⟩
    all_goals exact ⟨by rw [hn]; simp [Op.equalIn, run_underlying (atOf_sl hd)], rfl, rfl, by simp⟩
  · obtain ⟨_, rfl⟩ := hy
    cases he
    rcases hx with ⟨_, _, _, ad, rfl⟩ | ⟨pl, cap, _, rfl, _⟩
    all_goals exact ⟨by rw [hn]; simp [Op.equalIn, run_underlying (atOf_sl hd)], rfl, rfl, by simp⟩
  · obtain rfl := hx; obtain rfl := hy
    cases he
    obtain ⟨_, _, _, hu⟩ := atOf_fn hd
    exact ⟨by rw [hn]; simp [Op.equalIn, run_underlying hu], rfl, rfl, by simp⟩
  · obtain rfl := hx; obtain ⟨F, C, rfl, _⟩ := hy
    cases he
    obtain ⟨_, _, _, hu⟩ := atOf_fn hd
    exact ⟨by rw [hn]; simp [Op.equalIn, run_underlying hu], rfl, rfl, by simp⟩
  · obtain rfl := hy; obtain ⟨F, C, rfl, _⟩ := hx
    cases he
    obtain ⟨_, _, _, hu⟩ := atOf_fn hd
    exact ⟨by rw [hn]; simp [Op.equalIn, run_underlying hu], rfl, rfl, by simp⟩
  · obtain rfl := hx; obtain rfl := hy
    obtain ⟨_, hu⟩ := atOf_iface hd
    split at he
    · rename_i hc
      cases he
      exact ⟨by rw [hn]; simp [Op.equalIn, run_underlying hu], rfl, rfl, by simp [hc]⟩
    · cases he
  · obtain rfl := hx; obtain ⟨u, rfl, _⟩ := hy
    cases he
    obtain ⟨_, hu⟩ := atOf_iface hd
    exact ⟨by rw [hn]; simp [Op.equalIn, run_underlying hu], rfl, rfl, by simp⟩
  · obtain rfl := hy; obtain ⟨u, rfl, _⟩ := hx
    cases he
    obtain ⟨_, hu⟩ := atOf_iface hd
    exact ⟨by rw [hn]; simp [Op.equalIn, run_underlying hu], rfl, rfl, by simp⟩

theorem OpV.cmp {P : Program} {a : AF} {h : AHeap} {o : Oper} {op : BinOp} {t t' : TypeId} {x y : Operand} {b r : Bool} (hop : o.op = .binOp op t x y t') (hb : aeqT (atOf P t) (isC x || isC y) (a.ev P x) (a.ev P y) = some b)
    (hr : (op = .eql ∧ r = b) ∨ (op = .neq ∧ r = !b)) : OpV P a h o (.b r) h :=
  OpV.pure fun κ act w ha hh => by
    have h1 := ha.ev (P := P) hh x
    have h2 := ha.ev (P := P) hh y
    obtain ⟨e1, e2, e3, e4, e5⟩ := aeqT_sound (P := P) hb h1 h2 w
    have hg : (eqGuard op t x y (act.eval x) (act.eval y)).run P w = .ok () w := by
      generalize hvx : act.eval x = vx at e4 e5
      generalize hvy : act.eval y = vy at e4
      clear e1 e2 e3
      have hcc : (vx = .nilIface ∧ vy = .nilIface) → (isC x || isC y) = true := e4
      unfold eqGuard
      rcases hr with ⟨rfl, _⟩ | ⟨rfl, _⟩
      all_goals
        simp only [Bool.not_true, Bool.false_eq_true, if_false]
        split
        · have := hcc ⟨rfl, rfl⟩
          clear hop hb h1 h2 e4 e5 hcc hvx hvy
          cases x <;> cases y <;> first | rfl | (cases this)
        · exact absurd rfl (e5 _)
        · rfl
    rcases hr with ⟨rfl, rfl⟩ | ⟨rfl, rfl⟩
    · exact ⟨.bool r, by simp [execOp, hop, hg, e2, e1], by simp [VR]⟩
    · exact ⟨.bool (!b), by simp [execOp, hop, hg, e3, e1], by simp [VR]⟩

/-- Parts that stand in a row, from the k-th on: their cells. -/
def aseq (esz : Nat) : List (Nat × AV) → Nat → Option (List AV)
  | [], _ => some []
  | (i, v) :: r, k => match Nat.beq i k with
    | false => none
    | true => match v.cells with
      | none => none
      | some cs => match Nat.beq cs.length esz with
        | false => none
        | true => match aseq esz r (k + 1) with
          | none => none
          | some rest => some (cs ++ rest)

def bfill (esz n : Nat) (zero : List AV) (parts : List (Nat × AV)) : Option (List AV) :=
  match aseq esz parts 0 with
  | none => afill (fun i => some (i * esz, esz)) (tiled zero n) parts
  | some cells => match Nat.beq cells.length (n * esz) with
    | true => some cells
    | false => afill (fun i => some (i * esz, esz)) (tiled zero n) parts

theorem aseq_afill {esz : Nat} : ∀ {parts : List (Nat × AV)} {k : Nat} {cs : List AV}, aseq esz parts k = some cs → ∀ pre post : List AV, pre.length = k * esz → cs.length ≤ post.length →
    afill (fun i => some (i * esz, esz)) (pre ++ post) parts = some (pre ++ cs ++ post.drop cs.length)
  | [], k, cs, h, pre, post, hp, hl => by
    simp only [aseq, Option.some.injEq] at h
    subst h
    simp [afill]
  | (i, v) :: r, k, cs, h, pre, post, hp, hl => by
    unfold aseq at h
    split at h
    · cases h
    rename_i hik
    have hik := Nat.eq_of_beq_eq_true hik
    subst hik
    split at h
    · cases h
    rename_i c hc
    split at h
    · cases h
    rename_i hcl
    have hcl := Nat.eq_of_beq_eq_true hcl
    split at h
    · cases h
    rename_i rest hr
    cases h
    simp only [List.length_append] at hl
    unfold afill
    simp only [hc]
    rw [if_pos ⟨hcl, by simp; omega⟩]
    have hsp : splice (pre ++ post) (i * esz) c = (pre ++ c) ++ post.drop c.length := by
      unfold splice
      rw [← hp, List.take_left', List.drop_append, List.drop_of_length_le (by omega : pre.length ≤ pre.length + c.length)]
      · simp
      · rfl
    rw [hsp, aseq_afill hr (pre ++ c) (post.drop c.length) (by simp [hp, hcl, Nat.add_mul]) (by simp; omega)]
    simp [List.drop_drop]

theorem bfill_afill {esz n : Nat} {zero : List AV} {parts : List (Nat × AV)} {cells : List AV} (hz : zero.length = esz) (h : bfill esz n zero parts = some cells) : afill (fun i => some (i * esz, esz)) (tiled zero n) parts = some cells := by
  unfold bfill at h
  split at h
  · exact h
  · rename_i cs hcs
    split at h
    · rename_i hl
      have hl := Nat.eq_of_beq_eq_true hl
      cases h
      have ht : (tiled zero n).length = n * esz := by rw [tiled_length, hz]
      have := aseq_afill hcs [] (tiled zero n) (by simp) (by omega)
      simp only [List.nil_append] at this
      rw [this, List.drop_of_length_le (by omega)]
      simp
    · exact h

/-- Operations that read no memory. -/
def aval (E : Env) (ev : Operand → AV) (o : Op) : OR :=
  match o with
  | .move x => .val [] (ev x)
  | .assign x => .val [] (ev x)
  | .pick c x y => match ev c with
    | .b t => match t with
      | true => .val [] (ev x)
      | false => .val [] (ev y)
    | _ => .no
  | .alloc e => match E.ty e with
    | some ti => match ti.zero with
      | some cells => .new [] (fun n => .p (some (n, 0))) ⟨e, cells, .rw⟩
      | none => .no
    | none => .no
  | .box e x => match (ev x).cells with
    | some cells => forceL cells fun cells => .new [] (fun n => .p (some (n, 0))) ⟨e, cells, .rw⟩
    | none => .no
  | .nilCheck x => match ev x with
    | .p (some ad) => .val [] (.p (some ad))
    | .ip cs => .val [] (.ip cs)
    | _ => .no
  | .binOp op ty x y _ => match abinO op (ev x) (ev y) with
    | .no => match E.ty ty with
      | some ti => match aeqT ti.d (isC x || isC y) (ev x) (ev y) with
        | some b => match op with
          | .eql => .val [] (.b b)
          | .neq => .val [] (.b (!b))
          | _ => .no
        | none => .no
      | none => .no
    | r => r
  | .unOp .not _ x => match ev x with
    | .b t => .val [] (.b (!t))
    | _ => .no
  | .unOp .neg _ x => match ev x with
    | .i k n => .val [] (.i k (k.wrap (0 - n)))
    | _ => .no
  | .unOp .xor _ x => match ev x with
    | .i k n => .val [] (.i k (k.wrap (BitVec.ofInt k.bits (if k.signed then -1 else k.max) ^^^ BitVec.ofInt k.bits n).toNat))
    | _ => .no
  | .convert s t x => match ev x with
    | .i _ n => match E.ty s with
      | some ts => match ts.d with
        | .none => .no
        | _ => match E.ty t with
          | some tt => match tt.d with
            | .int k' => .val [] (.i k' (k'.wrap n))
            | _ => .no
          | none => .no
      | none => .no
    | _ => .no
  | .makeInterface t x => match E.ty t with
    | some ti => match ti.d with
      | .ifc => .no
      | .none => .no
      | _ => .val [] (.ifc t (ev x))
    | none => .no
  | .makeFunc f first caps => forceL (first.toList.map ev) fun F => forceL (caps.toList.map ev) fun C => .val [] (.fn f F C)
  | .makeSlice t l c => match E.ty t with
    | some ti => match ti.d with
      | .sl e => match E.ty e with
        | some te => match te.zero, ev l, ev c with
          | some zero, .i _ n, .i _ m => match Nat.beq zero.length te.size && Nat.blt 0 te.size with
            | true => .new [0 ≤ n, n ≤ m, (te.bytes : Int) * m ≤ 281474976710656, m ≤ 9223372036854775807] (fun j => .sl (some (j, 0)) n.toNat te.size false) ⟨e, tiled zero m.toNat, .vec⟩
            | false => .no
          | _, _, _ => .no
        | none => .no
      | _ => .no
    | none => .no
  | .fieldAddr s x j => match E.ty s, ev x with
    | some ti, .p (some (id, off)) => match ti.d with
      | .st fs => match fs[j]? with
        | some (fo, sz, _) => match Nat.beq sz 0 with
          | false => .val [] (.p (some (id, off + fo)))
          | true => .no
        | none => .no
      | _ => .no
    | some ti, .ip cs => match ti.d with
      | .st fs => match fs[j]? with
        | some (fo, sz, _) => match Nat.beq sz 0 with
          | false => .val [fo + sz ≤ cs.length] (.ip ((cs.drop fo).take sz))
          | true => .no
        | none => .no
      | _ => .no
    | _, _ => .no
  | .field t x j => match E.ty t, ev x with
    | some ti, .ag cs => match ti.d, ti.infos with
      | .st fs, true => match fs[j]? with
        | some (fo, sz, true) => .val [] (.ag ((cs.drop fo).take sz))
        | some (fo, _, false) => match cs[fo]? with
          | some v => .val [] v
          | none => .no
        | none => .no
      | _, _ => .no
    | _, _ => .no
  | .indexAddr t x y => match E.ty t, ev x, ev y with
    | some ti, .sl (some (id, off)) len esz _, .i _ n => match ti.d with
      | .sl e => match E.ty e with
        | some te => match te.d with
          | .none => .no
          | _ => match Nat.beq te.size esz with
            | true => .val [0 ≤ n, n < len] (.p (some (id, off + n.toNat * esz)))
            | false => .no
        | none => .no
      | _ => .no
    | _, _, _ => .no
  | .index t x y => match E.ty t, ev x, ev y with
    | some ti, .s s, .i _ n => match ti.d with
      | .str => .val [0 ≤ n, n < s.length] (.i .u8 ((s.getD n.toNat 0).toNat))
      | _ => .no
    | _, _, _ => .no
  | .extract x j => match ev x with
    | .tu vs => match vs[j]? with
      | some v => .val [] v
      | none => .no
    | _ => .no
  | .build t parts => match E.ty t with
    | some ti => match ti.d, ti.zero, ti.infos with
      | .st fs, some zero, true => match afill ((fs.map fun f => (f.1, f.2.1))[·]?) zero (parts.toList.map fun p => (p.1, ev p.2)) with
        | some cells => forceL cells fun cells => .val [] (.ag cells)
        | none => .no
      | _, _, _ => .no
    | none => .no
  | .buildSlice t n parts => match E.ty t with
    | some ti => match ti.d with
      | .sl e => match E.ty e with
        | some te => match te.zero with
          | some zero => match Nat.beq zero.length te.size && Nat.blt 0 te.size && Nat.ble (n * te.size) 16777216 with
            | true => match bfill te.size n zero (parts.toList.map fun p => (p.1, ev p.2)) with
              | some cells => forceL cells fun cells => match Nat.beq cells.length (n * te.size) with
                | true => .new [] (fun j => .sl (some (j, 0)) n te.size false) ⟨e, cells, .rw⟩
                | false => .no
              | none => .no
            | false => .no
          | none => .no
        | none => .no
      | _ => .no
    | none => .no
  | .slice t x lo hi mx => match E.ty t, ev x with
    | some ti, .s s => match ti.d with
      | .str => match mx with
        | none => match (match lo with | none => some 0 | some y => match ev y with | .i _ n => some n | _ => none), (match hi with | none => some (s.length : Int) | some y => match ev y with | .i _ n => some n | _ => none) with
          | some l, some m => .val [0 ≤ l, l ≤ m, m ≤ s.length] (.s ((s.drop l.toNat).take (m.toNat - l.toNat)))
          | _, _ => .no
        | some _ => .no
      | _ => .no
    | some ti, .sl (some (id, off)) len esz tg => match ti.d with
      | .sl e => match E.ty e with
        | some te => match te.d with
          | .none => .no
          | _ => match Nat.beq te.size esz && Nat.blt 0 esz with
            | true => match mx with
              | none => match (match lo with | none => some 0 | some y => match ev y with | .i _ n => some n | _ => none), (match hi with | none => some (len : Int) | some y => match ev y with | .i _ n => some n | _ => none) with
                | some l, some m => .val [0 ≤ l, l ≤ m, m ≤ len, tg = true → m = len] (.sl (some (id, off + l.toNat * esz)) (m.toNat - l.toNat) esz tg)
                | _, _ => .no
              | some z => match lo, hi with
                | some x, some y => match ev x, ev y, ev z with
                  | .i _ l, .i _ m, .i _ m' => .val [m' = m, 0 ≤ l, l ≤ m, m ≤ len] (.sl (some (id, off + l.toNat * esz)) (m.toNat - l.toNat) esz true)
                  | _, _, _ => .no
                | _, _ => .no
            | false => .no
        | none => .no
      | _ => .no
    | some ti, .im cs len => match ti.d with
      | .sl e => match E.ty e with
        | some te => match te.d with
          | .none => .no
          | _ => match mx with
            | none => match (match lo with | none => some 0 | some y => match ev y with | .i _ n => some n | _ => none), (match hi with | none => some (len : Int) | some y => match ev y with | .i _ n => some n | _ => none) with
              | some l, some m => .val [0 ≤ l, l ≤ m, m ≤ len, cs.length = len * te.size] (.im ((cs.drop (l.toNat * te.size)).take ((m.toNat - l.toNat) * te.size)) (m.toNat - l.toNat))
              | _, _ => .no
            | some _ => .no
        | none => .no
      | _ => .no
    | some ti, .sl none len esz tg => match ti.d with
      | .sl e => match E.ty e with
        | some te => match te.d with
          | .none => .no
          | _ => match mx with
            | none => match (match lo with | none => some 0 | some y => match ev y with | .i _ n => some n | _ => none), (match hi with | none => some 0 | some y => match ev y with | .i _ n => some n | _ => none) with
              | some l, some m => .val [len = 0, l = 0, m = 0] (.sl none 0 esz tg)
              | _, _ => .no
            | some z => match lo, hi with
              | some x, some y => match ev x, ev y, ev z with
                | .i _ l, .i _ m, .i _ m' => .val [len = 0, l = 0, m = 0, m' = 0] (.sl none 0 esz tg)
                | _, _, _ => .no
              | _, _ => .no
        | none => .no
      | _ => .no
    | _, _ => .no
  | .call { callee := .builtin .min, args := args, argTypes := _ } => match args.toList with
    | [x, y] => match ev x, ev y with
      | .i k n, .i _ m => .val [] (.i k (min n m))
      | _, _ => .no
    | _ => .no
  | .call { callee := .builtin .max, args := args, argTypes := _ } => match args.toList with
    | [x, y] => match ev x, ev y with
      | .i k n, .i _ m => .val [] (.i k (max n m))
      | _, _ => .no
    | _ => .no
  | _ => .no


theorem aval_val {E : Env} {a : AF} {h : AHeap} {o : Oper} {cs : List Prop} {v : AV} (he : aval E (a.ev E.P) o.op = .val cs v) (hc : AllP cs) : OpV E.P a h o v h := by
  unfold aval at he
  split at he
  case h_1 x hop => cases he; exact OpV.move (.inl hop)
  case h_2 x hop => cases he; exact OpV.move (.inr hop)
  case h_3 c x y hop =>
    split at he
    · rename_i t ht
      split at he
      · cases he; have := OpV.pick (h := h) hop ht; simpa using this
      · cases he; have := OpV.pick (h := h) hop ht; simpa using this
    · cases he
  case h_4 e hop => (repeat' split at he) <;> cases he
  case h_5 e x hop =>
    split at he
    · rw [forceL_eq] at he; cases he
    · cases he
  case h_6 x hop =>
    split at he
    · rename_i ad hx; cases he; exact OpV.nilCheck hop hx
    · rename_i cs hx; cases he; exact OpV.nilCheckI hop hx
    · cases he
  case h_7 op t x y t' hop =>
    split at he
    · split at he
      · rename_i ti hti
        split at he
        · rename_i b hb
          rw [(Env.at hti).1] at hb
          split at he
          · cases he; exact OpV.cmp hop hb (.inl ⟨rfl, rfl⟩)
          · cases he; exact OpV.cmp hop hb (.inr ⟨rfl, rfl⟩)
          · cases he
        · cases he
      · cases he
    · obtain ⟨c, h1, h2⟩ := abinO_abin he hc
      exact OpV.bin hop h1 h2
  case h_8 t x hop =>
    split at he
    · rename_i t hx; cases he; exact OpV.not hop hx
    · cases he
  case h_9 t x hop =>
    split at he
    · rename_i k n hx; cases he; exact OpV.neg hop hx
    · cases he
  case h_10 t x hop =>
    split at he
    · rename_i k n hx; cases he; exact OpV.compl hop hx
    · cases he
  case h_11 s t x hop =>
    split at he
    · rename_i k n hx
      split at he
      · rename_i ts hts
        split at he
        · cases he
        · rename_i hne
          split at he
          · rename_i tt htt
            split at he
            · rename_i k' hk'
              cases he
              have h1 := Env.at hts
              have h2 := Env.at htt
              obtain ⟨d, hd⟩ := atOf_some (P := E.P) (t := s) (by rw [← h1.1]; exact hne)
              exact OpV.convInt hop hd (atOf_int (by rw [← h2.1]; exact hk')) hx
            · cases he
          · cases he
      · cases he
    · cases he
  case h_12 t x hop =>
    split at he
    · rename_i ti hti
      split at he
      · cases he
      · cases he
      · rename_i h1 h2
        cases he
        have h3 := Env.at hti
        obtain ⟨d, hd⟩ := atOf_some (P := E.P) (t := t) (by rw [← h3.1]; exact h2)
        exact OpV.makeInterface hop hd fun ms e => atOf_ifc (P := E.P) (t := t) (by rw [← h3.1]; exact h1) ms (by rw [hd, e])
    · cases he
  case h_13 f first caps hop =>
    rw [forceL_eq, forceL_eq] at he
    cases he
    exact OpV.makeFunc hop
  case h_14 t l c hop => (repeat' split at he) <;> cases he
  case h_15 s x j hop =>
    split at he
    · rename_i ti id off hti hx
      split at he
      · rename_i fs hfs
        split at he
        · rename_i fo sz ag hf
          split at he
          · rename_i hz
            cases he
            have h1 := Env.at hti
            obtain ⟨FS, h2, rfl⟩ := atOf_st (P := E.P) (t := s) (by rw [← h1.1]; exact hfs)
            rw [List.getElem?_map] at hf
            cases hF : FS.toList[j]? with
            | none => rw [hF] at hf; simp at hf
            | some f =>
              rw [hF] at hf
              simp only [Option.map_some, Option.some.injEq, Prod.mk.injEq] at hf
              obtain ⟨rfl, rfl, _⟩ := hf
              exact OpV.fieldAddr hop h2 (by simpa using hF) (by intro e; rw [e] at hz; cases hz) hx
          · cases he
        · cases he
      · cases he
    · rename_i ti cs hti hx
      split at he
      · rename_i fs hfs
        split at he
        · rename_i fo sz ag hf
          split at he
          · rename_i hz
            cases he
            have h1 := Env.at hti
            obtain ⟨FS, h2, rfl⟩ := atOf_st (P := E.P) (t := s) (by rw [← h1.1]; exact hfs)
            rw [List.getElem?_map] at hf
            cases hF : FS.toList[j]? with
            | none => rw [hF] at hf; simp at hf
            | some f =>
              rw [hF] at hf
              simp only [Option.map_some, Option.some.injEq, Prod.mk.injEq] at hf
              obtain ⟨rfl, rfl, _⟩ := hf
              exact OpV.fieldAddrI hop h2 (by simpa using hF) rfl (by intro e; rw [e] at hz; cases hz) hx hc.1
          · cases he
        · cases he
      · cases he
    · cases he
  case h_16 t x j hop =>
    split at he
    · rename_i ti cs' hti hx
      split at he
      · rename_i fs hfs hinf
        have h1 := Env.at hti
        obtain ⟨FS, h2, rfl⟩ := atOf_st (P := E.P) (t := t) (by rw [← h1.1]; exact hfs)
        have h3 : infOf E.P t = true := by rw [← h1.2.2.2.1]; exact hinf
        have fieldAt : ∀ {fo sz : Nat} {ag : Bool}, (FS.toList.map fun f => (f.offset, E.P.cellsOf f.type, aggOf E.P f.type))[j]? = some (fo, sz, ag) → ∃ f d, FS[j]? = some f ∧ f.offset = fo ∧ E.P.cellsOf f.type = sz ∧ E.P.underlying f.type = some d ∧ aggD d = ag := by
          intro fo sz ag hf
          rw [List.getElem?_map] at hf
          cases hF : FS.toList[j]? with
          | none => rw [hF] at hf; simp at hf
          | some f =>
            rw [hF] at hf
            simp only [Option.map_some, Option.some.injEq, Prod.mk.injEq] at hf
            obtain ⟨rfl, rfl, rfl⟩ := hf
            unfold infOf at h3
            rw [h2] at h3
            simp only [Bool.and_eq_true, List.all_eq_true] at h3
            obtain ⟨d, hd⟩ := Option.isSome_iff_exists.1 (h3.2 f (List.mem_of_getElem? hF))
            exact ⟨f, d, by simpa using hF, rfl, rfl, hd, by simp [aggOf, hd]⟩
        split at he
        · rename_i fo sz hf
          cases he
          obtain ⟨f, d, g1, rfl, rfl, g2, g3⟩ := fieldAt hf
          exact OpV.field hop h2 g1 g2 hx (by rw [g3]; simp)
        · rename_i fo sz hf
          split at he
          · rename_i v hv
            cases he
            obtain ⟨f, d, g1, rfl, g4, g2, g3⟩ := fieldAt hf
            exact OpV.field hop h2 g1 g2 hx (by rw [g3]; simpa using hv)
          · cases he
        · cases he
      · cases he
    · cases he
  case h_17 t x y hop =>
    split at he
    · rename_i ti id off len esz tg k n hti hx hy
      split at he
      · rename_i e hd
        split at he
        · rename_i te hte
          split at he
          · cases he
          · rename_i hne
            split at he
            · rename_i hsz
              cases he
              have h1 := Env.at hti
              have h2 := Env.at hte
              obtain ⟨d, hd'⟩ := atOf_some (P := E.P) (t := e) (by rw [← h2.1]; exact hne)
              exact OpV.indexAddrSl hop (atOf_sl (by rw [← h1.1]; exact hd)) hd' (by rw [← h2.2.1]; exact Nat.eq_of_beq_eq_true hsz) hx hy hc.1 hc.2.1
            · cases he
        · cases he
      · cases he
    · cases he
  case h_18 t x y hop =>
    split at he
    · rename_i ti s k n hti hx hy
      split at he
      · rename_i hd
        cases he
        have h1 := Env.at hti
        exact OpV.indexStr hop (atOf_str (by rw [← h1.1]; exact hd)) hx hy hc.1 hc.2.1
      · cases he
    · cases he
  case h_19 x j hop =>
    split at he
    · rename_i vs hx
      split at he
      · rename_i v hv; cases he; exact OpV.extract hop hx hv
      · cases he
    · cases he
  case h_20 t parts hop =>
    split at he
    · rename_i ti hti
      split at he
      · rename_i fs zero hfs hz hinf
        split at he
        · rename_i cells hf
          rw [forceL_eq] at he
          cases he
          have h1 := Env.at hti
          obtain ⟨FS, h2, rfl⟩ := atOf_st (P := E.P) (t := t) (by rw [← h1.1]; exact hfs)
          have h3 : infOf E.P t = true := by rw [← h1.2.2.2.1]; exact hinf
          unfold infOf at h3
          rw [h2] at h3
          simp only [Bool.and_eq_true] at h3
          refine OpV.buildStruct hop h2 (by rw [← h1.2.2.2.2]; exact hz) h3.1 ?_
          rw [← hf]
          simp [fieldPlaces]
          rfl
        · cases he
      · cases he
    · cases he
  case h_21 t n parts hop =>
    (repeat' split at he) <;> (try rw [forceL_eq] at he) <;> (repeat' split at he) <;> cases he
  case h_22 t x lo hi mx hop =>
    have bnd : ∀ {d : Int} {z : Option Operand} {l : Int}, (match z with | none => some d | some y => match a.ev E.P y with | .i _ n => some n | _ => none) = some l → abound E.P a d z = some l := by
      intro d z l hz
      cases z with
      | none => exact hz
      | some y => exact hz
    split at he
    · rename_i ti s hti hx
      split at he
      · rename_i hd
        have h1 := Env.at hti
        have hs := atOf_str (P := E.P) (t := t) (by rw [← h1.1]; exact hd)
        split at he
        · split at he
          · rename_i l m hl hm
            cases he
            exact OpV.sliceStr hop hs hx (bnd hl) (bnd hm) hc.1 hc.2.1 hc.2.2.1
          · cases he
        · cases he
      · cases he
    · rename_i ti id off len esz tg hti hx
      split at he
      · rename_i e hd
        have h1 := Env.at hti
        have hs := atOf_sl (P := E.P) (t := t) (by rw [← h1.1]; exact hd)
        split at he
        · rename_i te hte
          have h2 := Env.at hte
          split at he
          · cases he
          · rename_i hne
            obtain ⟨d, hd'⟩ := atOf_some (P := E.P) (t := e) (by rw [← h2.1]; exact hne)
            split at he
            · rename_i hb
              simp only [Bool.and_eq_true] at hb
              have hsz : E.P.cellsOf e = esz := by rw [← h2.2.1]; exact Nat.eq_of_beq_eq_true hb.1
              have hpos : 0 < esz := Nat.le_of_ble_eq_true hb.2
              split at he
              · split at he
                · rename_i l m hl hm
                  cases he
                  exact OpV.sliceSl hop hs hd' hsz hpos hx (bnd hl) (bnd hm) hc.1 hc.2.1 hc.2.2.1 hc.2.2.2.1
                · cases he
              · split at he
                · split at he
                  · rename_i x1 y1 _ _ kl l km m kx m' hl hm hmx
                    cases he
                    obtain ⟨rfl, c1, c2, c3, _⟩ := hc
                    exact OpV.sliceSl3 hop hs hd' hsz hpos hx hl hm hmx c1 c2 c3
                  · cases he
                · cases he
            · cases he
        · cases he
      · cases he
    · rename_i ti cs len hti hx
      split at he
      · rename_i e hd
        have h1 := Env.at hti
        have hs := atOf_sl (P := E.P) (t := t) (by rw [← h1.1]; exact hd)
        split at he
        · rename_i te hte
          have h2 := Env.at hte
          split at he
          · cases he
          · rename_i hne
            obtain ⟨d, hd'⟩ := atOf_some (P := E.P) (t := e) (by rw [← h2.1]; exact hne)
            split at he
            · split at he
              · rename_i l m hl hm
                cases he
                exact OpV.sliceIm hop hs hd' h2.2.1.symm hx hc.2.2.2.1 (bnd hl) (bnd hm) hc.1 hc.2.1 hc.2.2.1
              · cases he
            · cases he
        · cases he
      · cases he
    · rename_i ti len esz tg hti hx
      split at he
      · rename_i e hd
        have h1 := Env.at hti
        have hs := atOf_sl (P := E.P) (t := t) (by rw [← h1.1]; exact hd)
        split at he
        · rename_i te hte
          have h2 := Env.at hte
          split at he
          · cases he
          · rename_i hne
            obtain ⟨d, hd'⟩ := atOf_some (P := E.P) (t := e) (by rw [← h2.1]; exact hne)
            split at he
            · split at he
              · rename_i l m hl hm
                cases he
                obtain ⟨rfl, rfl, rfl, _⟩ := hc
                exact OpV.sliceNil hop hs hd' hx (bnd hl) (bnd hm) rfl (by simp)
              · cases he
            · split at he
              · split at he
                · rename_i x1 y1 _ _ kl l km m kx m' hl hm hmx
                  cases he
                  obtain ⟨rfl, rfl, rfl, rfl, _⟩ := hc
                  exact OpV.sliceNil hop hs hd' hx (by simp [abound, hl]) (by simp [abound, hm]) (by simp [abound, hmx]) (by simp)
                · cases he
              · cases he
        · cases he
      · cases he
    · cases he
  case h_23 args tys hop =>
    split at he
    · rename_i x y hxy
      have e1 : args = #[x, y] := by rw [← Array.toArray_toList (xs := args), hxy]
      subst e1
      split at he
      · rename_i k n k' m hx hy
        cases he
        exact OpV.minI hop hx hy
      · cases he
    · cases he
  case h_24 args tys hop =>
    split at he
    · rename_i x y hxy
      have e1 : args = #[x, y] := by rw [← Array.toArray_toList (xs := args), hxy]
      subst e1
      split at he
      · rename_i k n k' m hx hy
        cases he
        exact OpV.maxI hop hx hy
      · cases he
    · cases he
  case h_25 => cases he

theorem aval_new {E : Env} {a : AF} {h : AHeap} {o : Oper} {cs : List Prop} {v : Nat → AV} {ob : AObj} (he : aval E (a.ev E.P) o.op = .new cs v ob) (hc : AllP cs) : OpV E.P a h o (v h.length) (h ++ [ob]) := by
  have nob : ∀ {op x y}, abinO op x y ≠ .new cs v ob := by
    intro op x y hh
    unfold abinO at hh
    (repeat' split at hh) <;> cases hh
  unfold aval at he
  split at he
  case h_4 e hop =>
    split at he
    · rename_i ti hti
      split at he
      · rename_i cells hz
        cases he
        exact OpV.alloc hop (by rw [← (Env.at hti).2.2.2.2]; exact hz)
      · cases he
    · cases he
  case h_5 e x hop =>
    split at he
    · rename_i cells hx
      rw [forceL_eq] at he
      cases he
      exact OpV.box hop hx
    · cases he
  case h_14 t l c hop =>
    split at he
    · rename_i ti hti
      split at he
      · rename_i e hd
        split at he
        · rename_i te hte
          split at he
          · rename_i zero kl n kc m hz hl hm
            split at he
            · rename_i hb
              simp only [Bool.and_eq_true] at hb
              cases he
              have h1 := Env.at hti
              have h2 := Env.at hte
              have hz' : zeroA E.P e = some zero := by rw [← h2.2.2.2.2]; exact hz
              obtain ⟨c1, c2, c3, c4, _⟩ := hc
              rw [h2.2.2.1] at c3
              have hsz : te.size = E.P.cellsOf e := h2.2.1
              have := OpV.makeSlice (h := h) hop (atOf_sl (by rw [← h1.1]; exact hd)) hz' hsz.symm (Nat.eq_of_beq_eq_true hb.1) (Nat.le_of_ble_eq_true hb.2) hl hm c1 c2 c3 c4
              exact this
            · cases he
          · cases he
        · cases he
      · cases he
    · cases he
  case h_21 t n parts hop =>
    split at he
    · rename_i ti hti
      split at he
      · rename_i e hd
        split at he
        · rename_i te hte
          split at he
          · rename_i zero hz
            split at he
            · rename_i hb
              simp only [Bool.and_eq_true] at hb
              split at he
              · rename_i cells hf
                rw [forceL_eq] at he
                split at he
                · rename_i hl
                  cases he
                  have h1 := Env.at hti
                  have h2 := Env.at hte
                  have hz' : zeroA E.P e = some zero := by rw [← h2.2.2.2.2]; exact hz
                  exact OpV.buildSlice hop (atOf_sl (by rw [← h1.1]; exact hd)) hz' h2.2.1.symm (Nat.eq_of_beq_eq_true hb.1.1) (Nat.le_of_ble_eq_true hb.1.2) (Nat.le_of_ble_eq_true hb.2) (bfill_afill (Nat.eq_of_beq_eq_true hb.1.1) hf) (Nat.eq_of_beq_eq_true hl)
                · cases he
              · cases he
            · cases he
          · cases he
        · cases he
      · cases he
    · cases he
  case h_7 op t x y t' hop =>
    split at he
    · (repeat' split at he) <;> cases he
    · exact absurd he nob
  all_goals ((repeat' split at he) <;> (try rw [forceL_eq] at he) <;> (try rw [forceL_eq] at he) <;> (repeat' split at he) <;> cases he)

end Go.S2
