/- The operations over the abstract reading, second part: numbers, strings, memory. -/
import Derived.Test.YtabobghngfmilaaDoorS2C
set_option linter.unusedSimpArgs false
set_option linter.unusedVariables false
namespace Go.S2
variable {P : Program}

/-! ### Numbers, bools, strings -/

/-- What two operands give: under which condition, and what. -/
def abin (op : BinOp) : AV → AV → Option (Prop × AV)
  | .i k x, .i k' y =>
    match op with
    | .shl => some (0 ≤ y, .i k (k.wrap (x * 2 ^ min y.toNat k.bits)))
    | .shr => some (0 ≤ y, .i k (x.fdiv (2 ^ min y.toNat k.bits)))
    | .add => some (k = k', .i k (k.wrap (x + y)))
    | .sub => some (k = k', .i k (k.wrap (x - y)))
    | .mul => some (k = k', .i k (k.wrap (x * y)))
    | .quo => some (k = k' ∧ y ≠ 0, .i k (k.wrap (x.tdiv y)))
    | .rem => some (k = k' ∧ y ≠ 0, .i k (x.tmod y))
    | .eql => some (k = k', .b (decide (x = y)))
    | .neq => some (k = k', .b (!decide (x = y)))
    | .lss => some (k = k', .b (decide (x < y)))
    | .leq => some (k = k', .b (decide (x ≤ y)))
    | .gtr => some (k = k', .b (decide (y < x)))
    | .geq => some (k = k', .b (decide (y ≤ x)))
    | .and => some (k = k', .i k (k.wrap (BitVec.ofInt k.bits x &&& BitVec.ofInt k.bits y).toNat))
    | .or => some (k = k', .i k (k.wrap (BitVec.ofInt k.bits x ||| BitVec.ofInt k.bits y).toNat))
    | .xor => some (k = k', .i k (k.wrap (BitVec.ofInt k.bits x ^^^ BitVec.ofInt k.bits y).toNat))
    | .andNot => some (k = k', .i k (k.wrap (BitVec.ofInt k.bits x &&& ~~~BitVec.ofInt k.bits y).toNat))
  | .s x, .s y =>
    match op with
    | .add => some (x.length + y.length < 9223372036854775808, .s (x ++ y))
    | .eql => some (True, .b (decide (x = y)))
    | .neq => some (True, .b (!decide (x = y)))
    | .lss => some (True, .b (Op.bytesLess x y))
    | _ => none
  | _, _ => none

theorem abin_sound {op : BinOp} {t : TypeId} {x y : AV} {vx vy : Value} {κ : Cx} {c : Prop} {v : AV} (hb : abin op x y = some (c, v)) (hc : c) (hx : VR κ x vx) (hy : VR κ y vy) (w : World) :
    ∃ val, (binOp op t vx vy).run P w = .ok val w ∧ VR κ v val ∧ (∀ s, vx ≠ .iface s vy) ∧ vx ≠ .nilIface ∧ (∀ cs, vx ≠ .agg cs) := by
  cases x <;> cases y <;> simp only [abin] at hb <;> try (cases hb; done)
  case i.i k n k' m =>
    simp only [VR] at hx hy
    subst hx; subst hy
    cases op <;> simp only [Option.some.injEq, Prod.mk.injEq] at hb <;> try (cases hb; done)
    all_goals
      obtain ⟨h1, h2⟩ := hb
      subst h1; subst h2
    case shl =>
      have h0 : ¬ m < 0 := Int.not_lt.2 hc
      exact ⟨_, by simp [binOp, Op.shift, h0]; rfl, by simp [VR], by simp, by simp, by simp⟩
    case shr =>
      have h0 : ¬ m < 0 := Int.not_lt.2 hc
      exact ⟨_, by simp [binOp, Op.shift, h0]; rfl, by simp [VR], by simp, by simp, by simp⟩
    case quo =>
      obtain ⟨rfl, h0⟩ := hc
      exact ⟨_, by simp [binOp, Op.intDiv, h0]; rfl, by simp [VR], by simp, by simp, by simp⟩
    case rem =>
      obtain ⟨rfl, h0⟩ := hc
      exact ⟨_, by simp [binOp, Op.intDiv, h0]; rfl, by simp [VR], by simp, by simp, by simp⟩
    all_goals
      subst hc
      refine ⟨_, by simp [binOp, Op.intArith, Op.intCmp, Op.intBits]; rfl, ?_, by simp, by simp, by simp⟩
      first
        | (simp [VR]; done)
        | (simp only [VR]; congr 1; rw [Bool.eq_iff_iff]; simp; done)
        | (simp [VR, bne]; rw [Bool.eq_iff_iff]; simp)
  case s.s p q =>
    simp only [VR] at hx hy
    subst hx; subst hy
    cases op <;> simp only [Option.some.injEq, Prod.mk.injEq] at hb <;> try (cases hb; done)
    all_goals
      obtain ⟨h1, h2⟩ := hb
      subst h1; subst h2
    case add =>
      have h0 : ¬ (9223372036854775807 < ((p.length : Int) + (q.length : Int))) := by omega
      refine ⟨.string ⟨(p ++ q).toArray⟩, ?_, by simp [VR], by simp, by simp, by simp⟩
      have e : (⟨p.toArray⟩ ++ ⟨q.toArray⟩ : ByteArray) = ⟨(p ++ q).toArray⟩ := by
        apply ByteArray.ext
        simp [ByteArray.data_append]
      simp [binOp, Op.stringOp, e, ByteArray.size, IntKind.max, IntKind.signed, IntKind.bits, h0]
    all_goals
      refine ⟨_, by simp [binOp, Op.stringOp, ByteArray.toList_eq]; rfl, ?_, by simp, by simp, by simp⟩
      first
        | (simp [VR]; done)
        | (simp only [VR]; congr 1; rw [Bool.eq_iff_iff]; simp; done)

theorem OpV.bin {a : AF} {h : AHeap} {o : Oper} {op : BinOp} {t t' : TypeId} {x y : Operand} {c : Prop} {v : AV} (hop : o.op = .binOp op t x y t') (hb : abin op (a.ev P x) (a.ev P y) = some (c, v)) (hc : c) : OpV P a h o v h :=
  OpV.pure fun κ act w ha hh => by
    have h1 := ha.ev (P := P) hh x
    have h2 := ha.ev (P := P) hh y
    obtain ⟨val, h3, h4, _, h6, h7⟩ := abin_sound (P := P) (t := t) hb hc h1 h2 w
    refine ⟨val, ?_, h4⟩
    have hg : (eqGuard op t x y (act.eval x) (act.eval y)).run P w = .ok () w := by
      generalize act.eval x = vx at h6 h7
      generalize act.eval y = vy
      clear hop hb h3
      cases vx <;> first | (exact absurd rfl h6) | (exact absurd rfl (h7 _)) | (cases op <;> rfl)
    simp [execOp, hop, hg, h3]

theorem OpV.not {a : AF} {h : AHeap} {o : Oper} {t : TypeId} {x : Operand} {b : Bool} (hop : o.op = .unOp .not t x) (hx : a.ev P x = .b b) : OpV P a h o (.b (!b)) h :=
  OpV.pure fun κ act w ha hh => by
    have h1 := ha.ev (P := P) hh x
    rw [hx] at h1
    simp only [VR] at h1
    exact ⟨.bool !b, by simp [execOp, hop, h1, Op.unary], by simp [VR]⟩

theorem OpV.neg {a : AF} {h : AHeap} {o : Oper} {t : TypeId} {x : Operand} {k : IntKind} {n : Int} (hop : o.op = .unOp .neg t x) (hx : a.ev P x = .i k n) : OpV P a h o (.i k (k.wrap (0 - n))) h :=
  OpV.pure fun κ act w ha hh => by
    have h1 := ha.ev (P := P) hh x
    rw [hx] at h1
    simp only [VR] at h1
    exact ⟨.int k (k.wrap (0 - n)), by simp [execOp, hop, h1, Op.unary, Op.intArith], by simp [VR]⟩

theorem OpV.compl {a : AF} {h : AHeap} {o : Oper} {t : TypeId} {x : Operand} {k : IntKind} {n : Int} (hop : o.op = .unOp .xor t x) (hx : a.ev P x = .i k n) : OpV P a h o (.i k (k.wrap (BitVec.ofInt k.bits (if k.signed then -1 else k.max) ^^^ BitVec.ofInt k.bits n).toNat)) h :=
  OpV.pure fun κ act w ha hh => by
    have h1 := ha.ev (P := P) hh x
    rw [hx] at h1
    simp only [VR] at h1
    exact ⟨.int k (k.wrap (BitVec.ofInt k.bits (if k.signed then -1 else k.max) ^^^ BitVec.ofInt k.bits n).toNat), by simp [execOp, hop, h1, Op.unary, Op.intBits], by simp [VR]⟩

theorem OpV.convInt {a : AF} {h : AHeap} {o : Oper} {s t : TypeId} {x : Operand} {k k' : IntKind} {n : Int} {d : TypeDesc} (hop : o.op = .convert s t x) (hs : P.underlying s = some d) (ht : P.underlying t = some (.int k')) (hx : a.ev P x = .i k n) :
    OpV P a h o (.i k' (k'.wrap n)) h :=
  OpV.pure fun κ act w ha hh => by
    have h1 := ha.ev (P := P) hh x
    rw [hx] at h1
    simp only [VR] at h1
    exact ⟨.int k' (k'.wrap n), by simp [execOp, hop, h1, convert, run_underlying hs, run_underlying ht, Conv.intToInt], by simp [VR]⟩

theorem blt_len (ats : Array TypeId) (ty : TypeId) (cs : Array Bool) (args : Array Value) : builtin .len ats ty cs args = (do return (.value (← Builtin.len_ ats ty args))) := rfl
theorem blt_append (ats : Array TypeId) (ty : TypeId) (cs : Array Bool) (args : Array Value) : builtin .append ats ty cs args = (do return (.value (← Builtin.append_ ats ty args))) := rfl
theorem blt_copy (ats : Array TypeId) (ty : TypeId) (cs : Array Bool) (args : Array Value) : builtin .copy ats ty cs args = (do return (.value (← Builtin.copy_ ats ty args))) := rfl
theorem blt_min (ats : Array TypeId) (ty : TypeId) (cs : Array Bool) (args : Array Value) : builtin .min ats ty cs args = (do return (.value (← Builtin.min_ ats ty args))) := rfl
theorem blt_max (ats : Array TypeId) (ty : TypeId) (cs : Array Bool) (args : Array Value) : builtin .max ats ty cs args = (do return (.value (← Builtin.max_ ats ty args))) := rfl

theorem OpV.lenStr {a : AF} {h : AHeap} {o : Oper} {t : TypeId} {x : Operand} {s : List UInt8} (hop : o.op = .call { callee := .builtin .len, args := #[x], argTypes := #[t] }) (ht : P.underlying t = some .string) (hx : a.ev P x = .s s) :
    OpV P a h o (.i .i64 s.length) h :=
  OpV.pure fun κ act w ha hh => by
    have h1 := ha.ev (P := P) hh x
    rw [hx] at h1
    simp only [VR] at h1
    have key : ∀ ty, (Builtin.len_ #[t] ty #[.string ⟨s.toArray⟩]).run P w = .ok (.int .i64 s.length) w := fun ty => by
      rw [run_len_string w t ty _ ht]
      simp [goInt, ByteArray.size]
    exact ⟨.int .i64 s.length, by simp [execOp, hop, h1, resolve, invoke, blt_len, key], by simp [VR]⟩

theorem VR.slice_len {κ : Cx} {ad : Option (Nat × Nat)} {len esz : Nat} {tg : Bool} {v : Value} (h : VR κ (.sl ad len esz tg) v) : ∃ b c, v = .slice b len c := by
  cases ad with
  | none => simp only [VR] at h; exact ⟨none, 0, by rw [h.2, h.1]⟩
  | some ad =>
    simp only [VR] at h
    rcases h with ⟨h0, _, _, b, hb⟩ | ⟨pl, cap, _, hv, _⟩
    · exact ⟨some b, 0, by rw [hb, h0]⟩
    · exact ⟨_, cap, hv⟩

theorem VR.im_len {κ : Cx} {cs : List AV} {len : Nat} {v : Value} (h : VR κ (.im cs len) v) : ∃ b c, v = .slice b len c := by
  simp only [VR] at h
  rcases h with ⟨h0, _, b, c, hb⟩ | ⟨blk, base, cap, c, _, hv, _⟩
  · exact ⟨b, c, by rw [hb, h0]⟩
  · exact ⟨_, cap, hv⟩

theorem OpV.lenSl {a : AF} {h : AHeap} {o : Oper} {t e : TypeId} {x : Operand} {ad : Option (Nat × Nat)} {len esz : Nat} {tg : Bool} (hop : o.op = .call { callee := .builtin .len, args := #[x], argTypes := #[t] }) (ht : P.underlying t = some (.slice e)) (hx : a.ev P x = .sl ad len esz tg) :
    OpV P a h o (.i .i64 len) h :=
  OpV.pure fun κ act w ha hh => by
    have h1 := ha.ev (P := P) hh x
    rw [hx] at h1
    obtain ⟨b, c, h1⟩ := h1.slice_len
    have key : ∀ ty, (Builtin.len_ #[t] ty #[.slice b len c]).run P w = .ok (.int .i64 len) w := fun ty => by
      simp [Builtin.len_, run_underlying ht, goInt]
    exact ⟨.int .i64 len, by simp [execOp, hop, h1, resolve, invoke, blt_len, key], by simp [VR]⟩

theorem OpV.lenIm {a : AF} {h : AHeap} {o : Oper} {t e : TypeId} {x : Operand} {cs : List AV} {len : Nat} (hop : o.op = .call { callee := .builtin .len, args := #[x], argTypes := #[t] }) (ht : P.underlying t = some (.slice e)) (hx : a.ev P x = .im cs len) :
    OpV P a h o (.i .i64 len) h :=
  OpV.pure fun κ act w ha hh => by
    have h1 := ha.ev (P := P) hh x
    rw [hx] at h1
    obtain ⟨b, c, h1⟩ := h1.im_len
    have key : ∀ ty, (Builtin.len_ #[t] ty #[.slice b len c]).run P w = .ok (.int .i64 len) w := fun ty => by
      simp [Builtin.len_, run_underlying ht, goInt]
    exact ⟨.int .i64 len, by simp [execOp, hop, h1, resolve, invoke, blt_len, key], by simp [VR]⟩

/-! ### Smallest, greatest -/

theorem OpV.minI {a : AF} {h : AHeap} {o : Oper} {x y : Operand} {tys : Array TypeId} {k k' : IntKind} {n m : Int} (hop : o.op = .call { callee := .builtin .min, args := #[x, y], argTypes := tys }) (hx : a.ev P x = .i k n) (hy : a.ev P y = .i k' m) :
    OpV P a h o (.i k (min n m)) h :=
  OpV.pure fun κ act w ha hh => by
    have h1 := ha.ev (P := P) hh x
    have h2 := ha.ev (P := P) hh y
    rw [hx] at h1; rw [hy] at h2
    simp only [VR] at h1 h2
    refine ⟨.int k (min n m), ?_, by simp [VR]⟩
    have key : ∀ ty, (Builtin.min_ tys ty #[.int k n, .int k' m]).run P w = .ok (.int k (min n m)) w := fun ty => by
      have : (if m < n then m else n) = min n m := by split <;> omega
      simp [Builtin.min_, Builtin.min2, this]
    simp [execOp, hop, h1, h2, resolve, invoke, blt_min, key]

theorem OpV.maxI {a : AF} {h : AHeap} {o : Oper} {x y : Operand} {tys : Array TypeId} {k k' : IntKind} {n m : Int} (hop : o.op = .call { callee := .builtin .max, args := #[x, y], argTypes := tys }) (hx : a.ev P x = .i k n) (hy : a.ev P y = .i k' m) :
    OpV P a h o (.i k (max n m)) h :=
  OpV.pure fun κ act w ha hh => by
    have h1 := ha.ev (P := P) hh x
    have h2 := ha.ev (P := P) hh y
    rw [hx] at h1; rw [hy] at h2
    simp only [VR] at h1 h2
    refine ⟨.int k (max n m), ?_, by simp [VR]⟩
    have key : ∀ ty, (Builtin.max_ tys ty #[.int k n, .int k' m]).run P w = .ok (.int k (max n m)) w := fun ty => by
      have : (if m > n then m else n) = max n m := by split <;> omega
      simp [Builtin.max_, Builtin.max2, this]
    simp [execOp, hop, h1, h2, resolve, invoke, blt_max, key]

/-! ### Slicing -/

/-- A bound that is there, or not. -/
def abound (P : Program) (a : AF) (d : Int) : Option Operand → Option Int
  | none => some d
  | some x => match a.ev P x with | .i _ n => some n | _ => none

theorem OpV.sliceStr {a : AF} {h : AHeap} {o : Oper} {t : TypeId} {x : Operand} {lo hi : Option Operand} {s : List UInt8} {l m : Int} (hop : o.op = .slice t x lo hi none) (ht : P.underlying t = some .string) (hx : a.ev P x = .s s)
    (hl : abound P a 0 lo = some l) (hm : abound P a s.length hi = some m) (h0 : 0 ≤ l) (h1 : l ≤ m) (h2 : m ≤ s.length) : OpV P a h o (.s ((s.drop l.toNat).take (m.toNat - l.toNat))) h :=
  OpV.pure fun κ act w ha hh => by
    have hv := ha.ev (P := P) hh x
    rw [hx] at hv
    simp only [VR] at hv
    have hmm : 0 ≤ m := by omega
    have hsz : (ByteArray.mk s.toArray).size = s.length := by simp [ByteArray.size]
    have e : (ByteArray.mk s.toArray).extract l.toNat m.toNat = ⟨((s.drop l.toNat).take (m.toNat - l.toNat)).toArray⟩ := by
      apply ByteArray.ext
      simp [ByteArray.data_extract, List.extract_toArray, List.extract_eq_take_drop]
    refine ⟨.string ⟨((s.drop l.toNat).take (m.toNat - l.toNat)).toArray⟩, ?_, by simp [VR]⟩
    have hcast : max m 0 = m := by omega
    have hlo : ∀ y, lo = some y → ∃ k, act.eval y = .int k l := by
      intro y hy
      subst hy
      simp only [abound] at hl
      have := ha.ev (P := P) hh y
      cases hey : a.ev P y <;> rw [hey] at hl this <;> simp at hl
      subst hl
      simp only [VR] at this
      exact ⟨_, this⟩
    have hhi : ∀ y, hi = some y → ∃ k, act.eval y = .int k m := by
      intro y hy
      subst hy
      simp only [abound] at hm
      have := ha.ev (P := P) hh y
      cases hey : a.ev P y <;> rw [hey] at hm this <;> simp at hm
      subst hm
      simp only [VR] at this
      exact ⟨_, this⟩
    cases lo with
    | none =>
      simp [abound] at hl
      subst hl
      cases hi with
      | none =>
        simp [abound] at hm
        subst hm
        simp only [Int.toNat_natCast, Int.toNat_zero] at e
        simp [execOp, hop, hv, Instr.sliceAt, run_underlying ht, Instr.slice, Instr.sliceBounds, hsz, e]
      | some y =>
        obtain ⟨k, hk⟩ := hhi y rfl
        simp only [Int.toNat_zero] at e
        simp [execOp, hop, hv, Instr.sliceAt, run_underlying ht, Instr.slice, Instr.sliceBounds, Instr.sliceBound, hsz, e, hk, asIntOf, hmm, h2]
    | some z =>
      obtain ⟨k', hk'⟩ := hlo z rfl
      cases hi with
      | none =>
        simp [abound] at hm
        subst hm
        simp only [Int.toNat_natCast] at e
        simp [execOp, hop, hv, Instr.sliceAt, run_underlying ht, Instr.slice, Instr.sliceBounds, Instr.sliceBound, hsz, e, hk', asIntOf, h0, h1]
      | some y =>
        obtain ⟨k, hk⟩ := hhi y rfl
        simp [execOp, hop, hv, Instr.sliceAt, run_underlying ht, Instr.slice, Instr.sliceBounds, Instr.sliceBound, hsz, e, hk, hk', asIntOf, hmm, h2, h0, h1, hcast]

theorem aboundR {a : AF} {κ : Cx} {act : Act} {w : World} {h : AHeap} (ha : AR κ a act) (hh : HR P κ h w) {d l : Int} {y : Operand} (hl : abound P a d (some y) = some l) : ∃ k, act.eval y = .int k l := by
  simp only [abound] at hl
  have := ha.ev (P := P) hh y
  cases hey : a.ev P y <;> rw [hey] at hl this <;> simp at hl
  subst hl
  simp only [VR] at this
  exact ⟨_, this⟩

/-- s[lo:hi] of a slice within its length, no third index. -/
theorem OpV.sliceSl {a : AF} {h : AHeap} {o : Oper} {t e : TypeId} {d : TypeDesc} {x : Operand} {lo hi : Option Operand} {id off len esz : Nat} {tg : Bool} {l m : Int} (hop : o.op = .slice t x lo hi none) (ht : P.underlying t = some (.slice e)) (he : P.underlying e = some d) (hs : P.cellsOf e = esz) (hpos : 0 < esz)
    (hx : a.ev P x = .sl (some (id, off)) len esz tg)
    (hl : abound P a 0 lo = some l) (hm : abound P a len hi = some m) (h0 : 0 ≤ l) (h1 : l ≤ m) (h2 : m ≤ len) (htg : tg = true → m = len) : OpV P a h o (.sl (some (id, off + l.toNat * esz)) (m.toNat - l.toNat) esz tg) h :=
  OpV.pure fun κ act w ha hh => by
    have hv := ha.ev (P := P) hh x
    rw [hx] at hv
    have hmm : 0 ≤ m := by omega
    obtain ⟨l, rfl⟩ := Int.eq_ofNat_of_zero_le h0
    obtain ⟨m, rfl⟩ := Int.eq_ofNat_of_zero_le hmm
    have h1 : l ≤ m := by omega
    have h2 : m ≤ len := by omega
    simp only [Int.toNat_natCast]
    have key : ∀ (b : Addr) (cap : Nat), act.eval x = .slice (some b) len cap → len ≤ cap → (execOp act.eval o).run P w = .ok (.value (.slice (some (if cap = l then b else b.add (l * esz))) (m - l) (cap - l))) w := by
      intro b cap hv hcap
      have h2c : m ≤ cap := by omega
      cases lo with
      | none =>
        have hl : l = 0 := by simp [abound] at hl; omega
        subst hl
        cases hi with
        | none =>
          have hm : m = len := by simp [abound] at hm; omega
          subst hm
          simp [execOp, hop, hv, Instr.sliceAt, run_underlying ht, Instr.slice, Instr.sliceBounds, run_sizeOf' he, hs, Addr.add]
        | some y =>
          obtain ⟨k, hk⟩ := aboundR ha hh hm
          simp [execOp, hop, hv, Instr.sliceAt, run_underlying ht, Instr.slice, Instr.sliceBounds, Instr.sliceBound, run_sizeOf' he, hs, hk, asIntOf, h2c, Addr.add]
      | some z =>
        obtain ⟨k', hk'⟩ := aboundR ha hh hl
        cases hi with
        | none =>
          have hm : m = len := by simp [abound] at hm; omega
          subst hm
          by_cases hcl : cap = l
          · subst hcl; simp [execOp, hop, hv, Instr.sliceAt, run_underlying ht, Instr.slice, Instr.sliceBounds, Instr.sliceBound, run_sizeOf' he, hs, hk', asIntOf, h1]
          · simp [execOp, hop, hv, Instr.sliceAt, run_underlying ht, Instr.slice, Instr.sliceBounds, Instr.sliceBound, run_sizeOf' he, hs, hk', asIntOf, h1, hcl]
        | some y =>
          obtain ⟨k, hk⟩ := aboundR ha hh hm
          by_cases hcl : cap = l
          · subst hcl; simp [execOp, hop, hv, Instr.sliceAt, run_underlying ht, Instr.slice, Instr.sliceBounds, Instr.sliceBound, run_sizeOf' he, hs, hk, hk', asIntOf, h2c, h1]
          · simp [execOp, hop, hv, Instr.sliceAt, run_underlying ht, Instr.slice, Instr.sliceBounds, Instr.sliceBound, run_sizeOf' he, hs, hk, hk', asIntOf, h2c, h1, hcl]
    simp only [VR] at hv
    rcases hv with ⟨hl0, hoff, hpl0, b, hb⟩ | ⟨pl, cap, hp, hv, hc1, hc2, hc3, hc4, hc5⟩
    · subst hl0
      have hlz : l = 0 := by omega
      have hmz : m = 0 := by omega
      subst hlz; subst hmz
      exact ⟨_, key b 0 hb (Nat.le_refl _), by simp only [VR]; exact .inl ⟨by simp, by simpa using hoff, hpl0, b, by simp⟩⟩
    · refine ⟨_, key _ cap hv hc1, ?_⟩
      have hadd := addr_add pl.blk off (l * esz)
      by_cases hcl : cap = l
      · simp only [VR]
        by_cases hl0 : l = 0
        · subst hl0
          refine .inr ⟨pl, cap, hp, by rw [if_pos hcl]; simp, by omega, hc2, by simpa using hc3, fun ht => by have := hc4 ht; omega, fun hf => by simpa using hc5 hf⟩
        · have : 0 < l * esz := Nat.mul_pos (by omega) hpos
          refine .inl ⟨by omega, by omega, ⟨pl, hp⟩, ⟨pl.blk, off, none⟩, ?_⟩
          rw [if_pos hcl]
          congr 1 <;> omega
      · simp only [VR]
        have hmul : cap * esz = l * esz + (cap - l) * esz := by rw [← Nat.add_mul]; congr 1; omega
        refine .inr ⟨pl, cap - l, hp, by rw [if_neg hcl, hadd], by omega, by omega, by omega, fun ht => ?_, fun hf => ?_⟩
        · have := htg ht; have := hc4 ht; omega
        · have := hc5 hf; omega

/-- s[l:m:m]: nothing is behind it. -/
theorem OpV.sliceSl3 {a : AF} {h : AHeap} {o : Oper} {t e : TypeId} {d : TypeDesc} {x lo hi mx : Operand} {id off len esz : Nat} {tg : Bool} {kl km kx : IntKind} {l m : Int} (hop : o.op = .slice t x (some lo) (some hi) (some mx)) (ht : P.underlying t = some (.slice e)) (he : P.underlying e = some d) (hs : P.cellsOf e = esz) (hpos : 0 < esz)
    (hx : a.ev P x = .sl (some (id, off)) len esz tg)
    (hl : a.ev P lo = .i kl l) (hm : a.ev P hi = .i km m) (hmx : a.ev P mx = .i kx m) (h0 : 0 ≤ l) (h1 : l ≤ m) (h2 : m ≤ len) : OpV P a h o (.sl (some (id, off + l.toNat * esz)) (m.toNat - l.toNat) esz true) h :=
  OpV.pure fun κ act w ha hh => by
    have hv := ha.ev (P := P) hh x
    rw [hx] at hv
    have hmm : 0 ≤ m := by omega
    obtain ⟨l, rfl⟩ := Int.eq_ofNat_of_zero_le h0
    obtain ⟨m, rfl⟩ := Int.eq_ofNat_of_zero_le hmm
    have h1 : l ≤ m := by omega
    have h2 : m ≤ len := by omega
    simp only [Int.toNat_natCast]
    have v1 := ha.ev (P := P) hh lo
    have v2 := ha.ev (P := P) hh hi
    have v3 := ha.ev (P := P) hh mx
    rw [hl] at v1
    rw [hm] at v2
    rw [hmx] at v3
    simp only [VR] at v1 v2 v3
    have key : ∀ (b : Addr) (cap : Nat), act.eval x = .slice (some b) len cap → len ≤ cap → (execOp act.eval o).run P w = .ok (.value (.slice (some (if m = l then b else b.add (l * esz))) (m - l) (m - l))) w := by
      intro b cap hv hcap
      have h2c : m ≤ cap := by omega
      by_cases hcl : m = l
      · subst hcl; simp [execOp, hop, hv, Instr.sliceAt, run_underlying ht, Instr.slice, Instr.sliceBounds, Instr.sliceBound, run_sizeOf' he, hs, v1, v2, v3, asIntOf, h2c, h1]
      · simp [execOp, hop, hv, Instr.sliceAt, run_underlying ht, Instr.slice, Instr.sliceBounds, Instr.sliceBound, run_sizeOf' he, hs, v1, v2, v3, asIntOf, h2c, h1, hcl]
    simp only [VR] at hv
    rcases hv with ⟨hl0, hoff, hpl0, b, hb⟩ | ⟨pl, cap, hp, hv, hc1, hc2, hc3, hc4, hc5⟩
    · subst hl0
      have hlz : l = 0 := by omega
      have hmz : m = 0 := by omega
      subst hlz; subst hmz
      exact ⟨_, key b 0 hb (Nat.le_refl _), by simp only [VR]; exact .inl ⟨by simp, by simpa using hoff, hpl0, b, by simp⟩⟩
    · refine ⟨_, key _ cap hv hc1, ?_⟩
      have hadd := addr_add pl.blk off (l * esz)
      by_cases hcl : m = l
      · simp only [VR]
        by_cases hl0 : l = 0
        · subst hl0
          subst hcl
          refine .inr ⟨pl, 0, hp, by simp, by omega, by unfold maxLen; omega, by simp at hc3 ⊢; omega, fun ht => by omega, fun hf => by cases hf⟩
        · have : 0 < l * esz := Nat.mul_pos (by omega) hpos
          refine .inl ⟨by omega, by omega, ⟨pl, hp⟩, ⟨pl.blk, off, none⟩, ?_⟩
          rw [if_pos hcl]
          congr 1 <;> omega
      · simp only [VR]
        have hmul : cap * esz = l * esz + ((m - l) * esz + (cap - m) * esz) := by rw [← Nat.add_mul, ← Nat.add_mul]; congr 1; omega
        exact .inr ⟨pl, m - l, hp, by rw [if_neg hcl, hadd], by omega, by omega, by omega, fun _ => rfl, fun hf => by cases hf⟩

/-- s[lo:hi] of a slice that nobody writes, within its length, no third index. -/
theorem OpV.sliceIm {a : AF} {h : AHeap} {o : Oper} {t e : TypeId} {d : TypeDesc} {x : Operand} {lo hi : Option Operand} {cs : List AV} {len esz : Nat} {l m : Int} (hop : o.op = .slice t x lo hi none) (ht : P.underlying t = some (.slice e)) (he : P.underlying e = some d) (hs : P.cellsOf e = esz)
    (hx : a.ev P x = .im cs len) (hcs : cs.length = len * esz)
    (hl : abound P a 0 lo = some l) (hm : abound P a len hi = some m) (h0 : 0 ≤ l) (h1 : l ≤ m) (h2 : m ≤ len) : OpV P a h o (.im ((cs.drop (l.toNat * esz)).take ((m.toNat - l.toNat) * esz)) (m.toNat - l.toNat)) h :=
  OpV.pure fun κ act w ha hh => by
    have hv := ha.ev (P := P) hh x
    rw [hx] at hv
    have hmm : 0 ≤ m := by omega
    obtain ⟨l, rfl⟩ := Int.eq_ofNat_of_zero_le h0
    obtain ⟨m, rfl⟩ := Int.eq_ofNat_of_zero_le hmm
    have h1 : l ≤ m := by omega
    have h2 : m ≤ len := by omega
    simp only [Int.toNat_natCast]
    have key : ∀ (b : Option Addr) (cap : Nat), act.eval x = .slice b len cap → len ≤ cap → (execOp act.eval o).run P w = .ok (.value (.slice (if cap = l then b else b.map fun b => b.add (l * esz)) (m - l) (cap - l))) w := by
      intro b cap hv hcap
      have h2c : m ≤ cap := by omega
      cases lo with
      | none =>
        have hl : l = 0 := by simp [abound] at hl; omega
        subst hl
        cases hi with
        | none =>
          have hm : m = len := by simp [abound] at hm; omega
          subst hm
          cases b <;> simp [execOp, hop, hv, Instr.sliceAt, run_underlying ht, Instr.slice, Instr.sliceBounds, run_sizeOf' he, hs, Addr.add]
        | some y =>
          obtain ⟨k, hk⟩ := aboundR ha hh hm
          cases b <;> simp [execOp, hop, hv, Instr.sliceAt, run_underlying ht, Instr.slice, Instr.sliceBounds, Instr.sliceBound, run_sizeOf' he, hs, hk, asIntOf, h2c, Addr.add]
      | some z =>
        obtain ⟨k', hk'⟩ := aboundR ha hh hl
        cases hi with
        | none =>
          have hm : m = len := by simp [abound] at hm; omega
          subst hm
          by_cases hcl : cap = l
          · subst hcl; cases b <;> simp [execOp, hop, hv, Instr.sliceAt, run_underlying ht, Instr.slice, Instr.sliceBounds, Instr.sliceBound, run_sizeOf' he, hs, hk', asIntOf, h1]
          · cases b <;> simp [execOp, hop, hv, Instr.sliceAt, run_underlying ht, Instr.slice, Instr.sliceBounds, Instr.sliceBound, run_sizeOf' he, hs, hk', asIntOf, h1, hcl]
        | some y =>
          obtain ⟨k, hk⟩ := aboundR ha hh hm
          by_cases hcl : cap = l
          · subst hcl; cases b <;> simp [execOp, hop, hv, Instr.sliceAt, run_underlying ht, Instr.slice, Instr.sliceBounds, Instr.sliceBound, run_sizeOf' he, hs, hk, hk', asIntOf, h2c, h1]
          · cases b <;> simp [execOp, hop, hv, Instr.sliceAt, run_underlying ht, Instr.slice, Instr.sliceBounds, Instr.sliceBound, run_sizeOf' he, hs, hk, hk', asIntOf, h2c, h1, hcl]
    simp only [VR] at hv
    have hml : (m - l) * esz = m * esz - l * esz := Nat.sub_mul ..
    have hmle : m * esz ≤ len * esz := Nat.mul_le_mul_right _ h2
    have hlle : l * esz ≤ m * esz := Nat.mul_le_mul_right _ h1
    have hnl : ((cs.drop (l * esz)).take ((m - l) * esz)).length = (m - l) * esz := by
      rw [List.length_take, List.length_drop, hcs]; omega
    rcases hv with ⟨hl0, _, b, cap, hb⟩ | ⟨blk, base, cap, c, hf, hv, hc1, hc2, hb, hr⟩
    · subst hl0
      obtain rfl : l = 0 := by omega
      obtain rfl : m = 0 := by omega
      refine ⟨_, key b cap hb (by omega), ?_⟩
      unfold VR
      exact .inl ⟨rfl, List.eq_nil_of_length_eq_zero (by rw [hnl]; simp), _, _, rfl⟩
    · refine ⟨_, key _ cap hv hc1, ?_⟩
      simp only [VR]
      by_cases hml0 : m - l = 0
      · exact .inl ⟨hml0, List.eq_nil_of_length_eq_zero (by rw [hnl, hml0]; simp), by rw [hml0]; exact ⟨_, _, rfl⟩⟩
      · refine .inr ⟨blk, base + l * esz, cap - l, c, hf, ?_, by omega, by omega, by rw [hnl]; omega, ?_⟩
        · rw [if_neg (by omega)]; simp [addr_add]
        · exact hr.cut hb _ _ (by rw [hcs]; omega)

/-- A nil slice cut. -/
theorem OpV.sliceNil {a : AF} {h : AHeap} {o : Oper} {t e : TypeId} {d : TypeDesc} {x : Operand} {lo hi mx : Option Operand} {esz : Nat} {tg : Bool} (hop : o.op = .slice t x lo hi mx) (ht : P.underlying t = some (.slice e)) (he : P.underlying e = some d)
    (hx : a.ev P x = .sl none 0 esz tg)
    (hl : abound P a 0 lo = some 0) (hm : abound P a 0 hi = some 0) (hmx : abound P a 0 mx = some 0) (h3 : mx.isSome = true → hi.isSome = true) : OpV P a h o (.sl none 0 esz tg) h :=
  OpV.pure fun κ act w ha hh => by
    have hv := ha.ev (P := P) hh x
    rw [hx] at hv
    simp only [VR] at hv
    refine ⟨.slice none 0 0, ?_, by simp [VR]⟩
    cases mx with
    | none =>
      cases lo with
      | none =>
        cases hi with
        | none => simp [execOp, hop, hv.2, Instr.sliceAt, run_underlying ht, Instr.slice, Instr.sliceBounds, run_sizeOf' he]
        | some y => obtain ⟨k, hk⟩ := aboundR ha hh hm; simp [execOp, hop, hv.2, Instr.sliceAt, run_underlying ht, Instr.slice, Instr.sliceBounds, Instr.sliceBound, run_sizeOf' he, hk, asIntOf]
      | some z =>
        obtain ⟨k', hk'⟩ := aboundR ha hh hl
        cases hi with
        | none => simp [execOp, hop, hv.2, Instr.sliceAt, run_underlying ht, Instr.slice, Instr.sliceBounds, Instr.sliceBound, run_sizeOf' he, hk', asIntOf]
        | some y => obtain ⟨k, hk⟩ := aboundR ha hh hm; simp [execOp, hop, hv.2, Instr.sliceAt, run_underlying ht, Instr.slice, Instr.sliceBounds, Instr.sliceBound, run_sizeOf' he, hk, hk', asIntOf]
    | some u =>
      obtain ⟨k'', hk''⟩ := aboundR ha hh hmx
      cases hi with
      | none => simp at h3
      | some y =>
        obtain ⟨k, hk⟩ := aboundR ha hh hm
        cases lo with
        | none => simp [execOp, hop, hv.2, Instr.sliceAt, run_underlying ht, Instr.slice, Instr.sliceBounds, Instr.sliceBound, run_sizeOf' he, hk, hk'', asIntOf]
        | some z =>
          obtain ⟨k', hk'⟩ := aboundR ha hh hl
          simp [execOp, hop, hv.2, Instr.sliceAt, run_underlying ht, Instr.slice, Instr.sliceBounds, Instr.sliceBound, run_sizeOf' he, hk, hk', hk'', asIntOf]

end Go.S2
