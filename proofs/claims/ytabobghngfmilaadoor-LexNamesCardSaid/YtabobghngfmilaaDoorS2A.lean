/- A plain abstract reading of the machine, second form: mutable objects by number, data that nobody writes any more by its content. -/
import Derived.WalkKit
import Derived.Orders
import Derived.Recover
namespace Go.S2

/-- Values with abstract addresses: an address is an object's number and a cell's place in it. What is not written any more stands by its content: 'im' a slice, 'ip' a pointer. -/
inductive AV where
  | undef
  | b (x : Bool)
  | i (k : IntKind) (n : Int)
  | s (x : List UInt8)
  | p (a : Option (Nat × Nat))
  | ip (cs : List AV)
  | sl (a : Option (Nat × Nat)) (len esz : Nat) (tight : Bool)
  | im (cs : List AV) (len : Nat)
  | fn (f : Fn) (first caps : List AV)
  | nofn
  | ifc (t : TypeId) (v : AV)
  | noif
  | ag (cs : List AV)
  | tu (vs : List AV)
  deriving Inhabited

/-- rw: cells that may hold addresses; vec: cells that hold none; frz: such, and nobody writes them any more. -/
inductive AKind where
  | rw | vec | frz | dead
  deriving DecidableEq, Inhabited

def AKind.own : AKind → Bool
  | .rw | .vec => true
  | _ => false

theorem AKind.own_live {k : AKind} (h : k.own = true) : k ≠ .dead := by cases k <;> first | (cases h; done) | exact fun e => by cases e

structure AObj where
  ty : TypeId
  cells : List AV
  st : AKind
  deriving Inhabited

abbrev AHeap := List AObj

/-- Where an object lies: its block, how many cells the block has. -/
structure Pl where
  blk : Nat
  size : Nat
  deriving Inhabited

/-- Where objects lie, and what the frozen blocks hold. -/
structure Cx where
  pl : List Pl
  fz : Nat → Option (List Value)

def Cx.bare (κ : Cx) : Cx := ⟨[], κ.fz⟩

structure Cx.le (κ κ' : Cx) : Prop where
  pl : ∃ τ, κ'.pl = κ.pl ++ τ
  fz : ∀ b c, κ.fz b = some c → κ'.fz b = some c

theorem Cx.le.refl (κ : Cx) : κ.le κ := ⟨⟨[], by simp⟩, fun _ _ h => h⟩
theorem Cx.le.trans {κ κ1 κ2 : Cx} (a : κ.le κ1) (b : κ1.le κ2) : κ.le κ2 := by
  obtain ⟨τ, h1⟩ := a.pl
  obtain ⟨σ, h2⟩ := b.pl
  exact ⟨⟨τ ++ σ, by rw [h2, h1, List.append_assoc]⟩, fun c d h => b.fz c d (a.fz c d h)⟩
theorem Cx.le.get {κ κ' : Cx} (h : κ.le κ') {i : Nat} {pl : Pl} (hp : κ.pl[i]? = some pl) : κ'.pl[i]? = some pl := by
  obtain ⟨τ, h1⟩ := h.pl
  rw [h1, List.getElem?_append_left (List.getElem?_eq_some_iff.1 hp).1]; exact hp
theorem Cx.le.bare {κ κ' : Cx} (h : κ.le κ') : κ.bare.le κ'.bare := ⟨⟨[], rfl⟩, h.fz⟩
theorem Cx.bare_le (κ : Cx) : κ.bare.le κ := ⟨⟨κ.pl, rfl⟩, fun _ _ h => h⟩
@[simp] theorem Cx.bare_bare (κ : Cx) : κ.bare.bare = κ.bare := rfl

mutual
def VR (κ : Cx) : AV → Value → Prop
  | .undef, _ => True
  | .b x, v => v = .bool x
  | .i k n, v => v = .int k n
  | .s x, v => v = .string ⟨x.toArray⟩
  | .p none, v => v = .pointer none
  | .p (some a), v => ∃ pl, κ.pl[a.1]? = some pl ∧ v = .pointer (some ⟨pl.blk, a.2, none⟩)
  | .ip cs, v => ∃ blk base c, κ.fz blk = some c ∧ v = .pointer (some ⟨blk, base, none⟩) ∧ base + cs.length ≤ c.length ∧ VRL ⟨[], κ.fz⟩ cs ((c.drop base).take cs.length)
  | .sl none len _ _, v => len = 0 ∧ v = .slice none 0 0
  | .sl (some a) len esz t, v => (len = 0 ∧ a.2 ≠ 0 ∧ (∃ pl, κ.pl[a.1]? = some pl) ∧ ∃ ad, v = .slice (some ad) 0 0) ∨ ∃ pl cap, κ.pl[a.1]? = some pl ∧ v = .slice (some ⟨pl.blk, a.2, none⟩) len cap ∧ len ≤ cap ∧ cap ≤ maxLen ∧
      a.2 + cap * esz ≤ pl.size ∧ (t = true → cap = len) ∧ (t = false → a.2 + cap * esz = pl.size)
  | .im cs len, v => (len = 0 ∧ cs = [] ∧ ∃ ad cap, v = .slice ad 0 cap) ∨ ∃ blk base cap c, κ.fz blk = some c ∧ v = .slice (some ⟨blk, base, none⟩) len cap ∧ len ≤ cap ∧ cap ≤ maxLen ∧
      base + cs.length ≤ c.length ∧ VRL ⟨[], κ.fz⟩ cs ((c.drop base).take cs.length)
  | .fn f first caps, v => ∃ F C : List Value, v = .func f F.toArray C.toArray ∧ VRL κ first F ∧ VRL κ caps C
  | .nofn, v => v = .nilFunc
  | .ifc t x, v => ∃ y, v = .iface t y ∧ VR κ x y
  | .noif, v => v = .nilIface
  | .ag cs, v => ∃ C : List Value, v = .agg C.toArray ∧ VRL κ cs C
  | .tu vs, v => ∃ C : List Value, v = .tuple C.toArray ∧ VRL κ vs C
def VRL (κ : Cx) : List AV → List Value → Prop
  | [], l => l = []
  | x :: xs, l => ∃ y ys, l = y :: ys ∧ VR κ x y ∧ VRL κ xs ys
end

mutual
theorem VR.le : ∀ {κ κ' : Cx} (hl : κ.le κ') {x : AV} {v : Value}, VR κ x v → VR κ' x v
  | _, _, _, .undef, _, _ => by simp [VR]
  | _, _, _, .b _, _, h => by simpa [VR] using h
  | _, _, _, .i _ _, _, h => by simpa [VR] using h
  | _, _, _, .s _, _, h => by simpa [VR] using h
  | _, _, _, .p none, _, h => by simpa [VR] using h
  | _, _, hl, .p (some a), _, h => by
    simp only [VR] at h ⊢
    obtain ⟨pl, h1, h2⟩ := h
    exact ⟨pl, hl.get h1, h2⟩
  | _, _, hl, .ip cs, _, h => by
    simp only [VR] at h ⊢
    obtain ⟨blk, base, c, h1, h2, h3, h4⟩ := h
    exact ⟨blk, base, c, hl.fz _ _ h1, h2, h3, VRL.le (κ := ⟨[], _⟩) (κ' := ⟨[], _⟩) ⟨⟨[], rfl⟩, hl.fz⟩ h4⟩
  | _, _, _, .sl none _ _ _, _, h => by simpa [VR] using h
  | _, _, hl, .sl (some a) _ _ _, _, h => by
    simp only [VR] at h ⊢
    rcases h with ⟨g1, g2, ⟨pl, g3⟩, g4⟩ | ⟨pl, cap, h1, h2⟩
    · exact .inl ⟨g1, g2, ⟨pl, hl.get g3⟩, g4⟩
    · exact .inr ⟨pl, cap, hl.get h1, h2⟩
  | _, _, hl, .im cs len, _, h => by
    simp only [VR] at h ⊢
    rcases h with h | ⟨blk, base, cap, c, h1, h2, h3, h4, h5, h6⟩
    · exact .inl h
    · exact .inr ⟨blk, base, cap, c, hl.fz _ _ h1, h2, h3, h4, h5, VRL.le (κ := ⟨[], _⟩) (κ' := ⟨[], _⟩) ⟨⟨[], rfl⟩, hl.fz⟩ h6⟩
  | _, _, hl, .fn _ _ _, _, h => by
    simp only [VR] at h ⊢
    obtain ⟨F, C, h1, h2, h3⟩ := h
    exact ⟨F, C, h1, VRL.le hl h2, VRL.le hl h3⟩
  | _, _, _, .nofn, _, h => by simpa [VR] using h
  | _, _, hl, .ifc _ _, _, h => by
    simp only [VR] at h ⊢
    obtain ⟨y, h1, h2⟩ := h
    exact ⟨y, h1, VR.le hl h2⟩
  | _, _, _, .noif, _, h => by simpa [VR] using h
  | _, _, hl, .ag _, _, h => by
    simp only [VR] at h ⊢
    obtain ⟨C, h1, h2⟩ := h
    exact ⟨C, h1, VRL.le hl h2⟩
  | _, _, hl, .tu _, _, h => by
    simp only [VR] at h ⊢
    obtain ⟨C, h1, h2⟩ := h
    exact ⟨C, h1, VRL.le hl h2⟩
theorem VRL.le : ∀ {κ κ' : Cx} (hl : κ.le κ') {xs : List AV} {vs : List Value}, VRL κ xs vs → VRL κ' xs vs
  | _, _, _, [], _, h => by simpa [VRL] using h
  | _, _, hl, _ :: _, _, h => by
    simp only [VRL] at h ⊢
    obtain ⟨y, ys, h1, h2, h3⟩ := h
    exact ⟨y, ys, h1, VR.le hl h2, VRL.le hl h3⟩
end

theorem VRL.length {κ : Cx} : ∀ {xs : List AV} {vs : List Value}, VRL κ xs vs → vs.length = xs.length
  | [], _, h => by simp only [VRL] at h; simp [h]
  | _ :: _, _, h => by
    simp only [VRL] at h
    obtain ⟨y, ys, rfl, _, h3⟩ := h
    simp [VRL.length h3]

theorem VRL.get {κ : Cx} : ∀ {xs : List AV} {vs : List Value}, VRL κ xs vs → ∀ {j : Nat} {x : AV}, xs[j]? = some x → ∃ v, vs[j]? = some v ∧ VR κ x v
  | [], _, _, j, x, hx => by simp at hx
  | _ :: _, _, h, j, x, hx => by
    simp only [VRL] at h
    obtain ⟨y, ys, rfl, h2, h3⟩ := h
    cases j with
    | zero => simp at hx; subst hx; exact ⟨y, rfl, h2⟩
    | succ j => exact VRL.get h3 (j := j) (by simpa using hx)

theorem VRL.of_get {κ : Cx} : ∀ {xs : List AV} {vs : List Value}, vs.length = xs.length → (∀ (j : Nat) x v, xs[j]? = some x → vs[j]? = some v → VR κ x v) → VRL κ xs vs
  | [], vs, hl, _ => by simp only [VRL]; exact List.eq_nil_of_length_eq_zero (by simpa using hl)
  | x :: xs, [], hl, _ => by simp at hl
  | x :: xs, v :: vs, hl, h => by
    simp only [VRL]
    exact ⟨v, vs, rfl, h 0 x v rfl rfl, VRL.of_get (by simpa using hl) fun j x' v' h1 h2 => h (j + 1) x' v' (by simpa using h1) (by simpa using h2)⟩

theorem VRL.append {κ : Cx} : ∀ {xs ys : List AV} {vs us : List Value}, VRL κ xs vs → VRL κ ys us → VRL κ (xs ++ ys) (vs ++ us)
  | [], _, _, _, h1, h2 => by simp only [VRL] at h1; subst h1; simpa using h2
  | _ :: _, _, _, _, h1, h2 => by
    simp only [VRL] at h1
    obtain ⟨y, ys, rfl, h3, h4⟩ := h1
    simp only [List.cons_append, VRL]
    exact ⟨y, _, rfl, h3, VRL.append h4 h2⟩

theorem VRL.take {κ : Cx} {xs : List AV} {vs : List Value} (h : VRL κ xs vs) (n : Nat) : VRL κ (xs.take n) (vs.take n) :=
  VRL.of_get (by simp [h.length]) fun j x v h1 h2 => by
    rw [List.getElem?_take] at h1 h2
    split at h1
    · rename_i hj; rw [if_pos hj] at h2
      obtain ⟨v', h3, h4⟩ := h.get h1
      rw [h3] at h2; cases h2; exact h4
    · cases h1

theorem VRL.drop {κ : Cx} {xs : List AV} {vs : List Value} (h : VRL κ xs vs) (n : Nat) : VRL κ (xs.drop n) (vs.drop n) :=
  VRL.of_get (by simp [h.length]) fun j x v h1 h2 => by
    rw [List.getElem?_drop] at h1 h2
    obtain ⟨v', h3, h4⟩ := h.get h1
    rw [h3] at h2; cases h2; exact h4

theorem VRL.split {κ : Cx} : ∀ {xs ys : List AV} {vs : List Value}, VRL κ (xs ++ ys) vs → ∃ us ws, vs = us ++ ws ∧ VRL κ xs us ∧ VRL κ ys ws
  | [], _, vs, h => ⟨[], vs, rfl, by simp [VRL], by simpa using h⟩
  | _ :: _, _, _, h => by
    simp only [List.cons_append, VRL] at h
    obtain ⟨y, t, rfl, h1, h2⟩ := h
    obtain ⟨us, ws, rfl, h3, h4⟩ := VRL.split h2
    exact ⟨y :: us, ws, rfl, by simp only [VRL]; exact ⟨y, us, rfl, h1, h3⟩, h4⟩

@[simp] theorem VRL.nil {κ : Cx} : VRL κ [] [] := by simp [VRL]
theorem VRL.cons {κ : Cx} {x : AV} {v : Value} {xs : List AV} {vs : List Value} (h1 : VR κ x v) (h2 : VRL κ xs vs) : VRL κ (x :: xs) (v :: vs) := by
  simp only [VRL]; exact ⟨v, vs, rfl, h1, h2⟩

/-! ### Values that hold no address -/

mutual
def AV.flat : AV → Bool
  | .p (some _) => false
  | .sl (some _) _ _ _ => false
  | .fn _ first caps => flatL first && flatL caps
  | .ifc _ v => v.flat
  | .ag cs => flatL cs
  | .tu vs => flatL vs
  | _ => true
def flatL : List AV → Bool
  | [] => true
  | x :: xs => x.flat && flatL xs
end

mutual
theorem VR.flat {κ : Cx} : ∀ {x : AV} {v : Value}, x.flat = true → VR κ x v → VR κ.bare x v
  | .undef, _, _, _ => by simp [VR]
  | .b _, _, _, h => by simpa [VR] using h
  | .i _ _, _, _, h => by simpa [VR] using h
  | .s _, _, _, h => by simpa [VR] using h
  | .p none, _, _, h => by simpa [VR] using h
  | .p (some a), _, hf, h => by simp [AV.flat] at hf
  | .ip cs, _, _, h => by simp only [VR] at h ⊢; exact h
  | .sl none _ _ _, _, _, h => by simpa [VR] using h
  | .sl (some a) _ _ _, _, hf, h => by simp [AV.flat] at hf
  | .im cs len, _, _, h => by simp only [VR] at h ⊢; exact h
  | .fn _ _ _, _, hf, h => by
    simp only [VR] at h ⊢
    simp only [AV.flat, Bool.and_eq_true] at hf
    obtain ⟨F, C, h1, h2, h3⟩ := h
    exact ⟨F, C, h1, VRL.flat hf.1 h2, VRL.flat hf.2 h3⟩
  | .nofn, _, _, h => by simpa [VR] using h
  | .ifc _ _, _, hf, h => by
    simp only [VR] at h ⊢
    simp only [AV.flat] at hf
    obtain ⟨y, h1, h2⟩ := h
    exact ⟨y, h1, VR.flat hf h2⟩
  | .noif, _, _, h => by simpa [VR] using h
  | .ag _, _, hf, h => by
    simp only [VR] at h ⊢
    simp only [AV.flat] at hf
    obtain ⟨C, h1, h2⟩ := h
    exact ⟨C, h1, VRL.flat hf h2⟩
  | .tu _, _, hf, h => by
    simp only [VR] at h ⊢
    simp only [AV.flat] at hf
    obtain ⟨C, h1, h2⟩ := h
    exact ⟨C, h1, VRL.flat hf h2⟩
theorem VRL.flat {κ : Cx} : ∀ {xs : List AV} {vs : List Value}, flatL xs = true → VRL κ xs vs → VRL κ.bare xs vs
  | [], _, _, h => by simpa [VRL] using h
  | _ :: _, _, hf, h => by
    simp only [VRL] at h ⊢
    simp only [flatL, Bool.and_eq_true] at hf
    obtain ⟨y, ys, h1, h2, h3⟩ := h
    exact ⟨y, ys, h1, VR.flat hf.1 h2, VRL.flat hf.2 h3⟩
end

/-! ### The heap -/

def Cx.at (κ : Cx) : AKind → Cx
  | .vec | .frz => κ.bare
  | _ => κ

theorem Cx.le.at {κ κ' : Cx} (h : κ.le κ') (k : AKind) : (κ.at k).le (κ'.at k) := by cases k <;> first | exact h | exact h.bare
theorem Cx.at_le (κ : Cx) (k : AKind) : (κ.at k).le κ := by cases k <;> first | exact .refl _ | exact κ.bare_le

/-- An object lies in the world where κ says. -/
def ObjR (κ : Cx) (o : AObj) (pl : Pl) (w : World) : Prop :=
  ∃ cur, w.heap[pl.blk]? = some (.cells cur o.ty (0, 0)) ∧ cur.size = pl.size ∧ o.cells.length ≤ cur.size ∧ VRL (κ.at o.st) o.cells (cur.toList.take o.cells.length)

/-- What package variables hold that nobody writes: by their names. -/
def spaceN (n : Nat) : Int := if n = 32 ∨ (9 ≤ n ∧ n ≤ 13) then 1 else 0

def glTab (n : String) : Option (List AV) :=
  if n = "strings.asciiSpace" then some ((List.range 256).map fun n => AV.i .u8 (spaceN n)) else none

def glOf (P : Program) (g : Nat) : Option (List AV) :=
  match P.globals[g]? with
  | some x => glTab x.name
  | none => none

/-- The package variables lie frozen. -/
def GlR (P : Program) (κ : Cx) : Prop := ∀ g cs, glOf P g = some cs → ∃ c, κ.fz g = some c ∧ cs.length ≤ c.length ∧ VRL ⟨[], κ.fz⟩ cs (c.take cs.length)

theorem GlR.of {P : Program} {κ κ' : Cx} (h : GlR P κ) (hf : ∀ b c, κ.fz b = some c → κ'.fz b = some c) : GlR P κ' := fun g cs hg => by
  obtain ⟨c, h1, h2, h3⟩ := h g cs hg
  exact ⟨c, hf _ _ h1, h2, VRL.le (κ := ⟨[], κ.fz⟩) (κ' := ⟨[], κ'.fz⟩) ⟨⟨[], rfl⟩, hf⟩ h3⟩

structure HR (P : Program) (κ : Cx) (h : AHeap) (w : World) : Prop where
  len : κ.pl.length = h.length
  obj : ∀ (id : Nat) o pl, h[id]? = some o → κ.pl[id]? = some pl → o.st ≠ .dead → ObjR κ o pl w
  excl : ∀ (i j : Nat) o o' pl pl', h[i]? = some o → h[j]? = some o' → κ.pl[i]? = some pl → κ.pl[j]? = some pl' → o.st.own = true → o'.st ≠ .dead → i ≠ j → pl.blk ≠ pl'.blk
  fz : ∀ b c, κ.fz b = some c → ∃ cur e z, w.heap[b]? = some (.cells cur e z) ∧ cur.toList = c
  nofz : ∀ (id : Nat) o pl, h[id]? = some o → κ.pl[id]? = some pl → o.st.own = true → κ.fz pl.blk = none
  fzo : ∀ (id : Nat) o pl, h[id]? = some o → κ.pl[id]? = some pl → o.st = .frz → ∃ c, κ.fz pl.blk = some c
  gl : GlR P κ

def Owned (κ : Cx) (h : AHeap) (k : Nat) : Prop := ∃ (id : Nat) (o : AObj) (pl : Pl), h[id]? = some o ∧ κ.pl[id]? = some pl ∧ o.st.own = true ∧ pl.blk = k

/-- What a step, or many, leave as it was, of the world. -/
structure FrW (κ : Cx) (h : AHeap) (w : World) (κ' : Cx) (h' : AHeap) (w' : World) : Prop where
  os : w'.os = w.os
  tape : w'.tape = w.tape
  output : w'.output = w.output
  size : w.heap.size ≤ w'.heap.size
  block : ∀ k, k < w.heap.size → ¬ Owned κ h k → w'.heap[k]? = w.heap[k]?
  own : ∀ k, Owned κ' h' k → Owned κ h k ∨ w.heap.size ≤ k
  fzn : ∀ b c, κ'.fz b = some c → κ.fz b = some c ∨ Owned κ h b ∨ w.heap.size ≤ b

theorem FrW.refl (κ : Cx) (h : AHeap) (w : World) : FrW κ h w κ h w := ⟨rfl, rfl, rfl, Nat.le_refl _, fun _ _ _ => rfl, fun _ h => .inl h, fun _ _ h => .inl h⟩

theorem FrW.trans {κ κ1 κ2 : Cx} {h h1 h2 : AHeap} {w w1 w2 : World} (a : FrW κ h w κ1 h1 w1) (b : FrW κ1 h1 w1 κ2 h2 w2) : FrW κ h w κ2 h2 w2 := by
  refine ⟨b.os.trans a.os, b.tape.trans a.tape, b.output.trans a.output, Nat.le_trans a.size b.size, fun k hk ho => ?_, fun k hk => ?_, fun k c hk => ?_⟩
  · rw [b.block k (Nat.lt_of_lt_of_le hk a.size) fun ho1 => ?_, a.block k hk ho]
    rcases a.own k ho1 with h | h
    · exact ho h
    · omega
  · rcases b.own k hk with h | h
    · exact a.own k h
    · exact .inr (Nat.le_trans a.size h)
  · rcases b.fzn k c hk with h | h | h
    · exact a.fzn k c h
    · exact .inr (a.own k h)
    · exact .inr (.inr (Nat.le_trans a.size h))

/-- All that has a number keeps its place. -/
structure Fr (κ : Cx) (h : AHeap) (w : World) (κ' : Cx) (h' : AHeap) (w' : World) : Prop where
  le : κ.le κ'
  fr : FrW κ h w κ' h' w'

theorem Fr.refl (κ : Cx) (h : AHeap) (w : World) : Fr κ h w κ h w := ⟨.refl _, .refl _ _ _⟩
theorem Fr.trans {κ κ1 κ2 : Cx} {h h1 h2 : AHeap} {w w1 w2 : World} (a : Fr κ h w κ1 h1 w1) (b : Fr κ1 h1 w1 κ2 h2 w2) : Fr κ h w κ2 h2 w2 := ⟨a.le.trans b.le, a.fr.trans b.fr⟩
theorem Fr.vr {κ κ' : Cx} {h h' : AHeap} {w w' : World} (f : Fr κ h w κ' h' w') {x : AV} {v : Value} (hv : VR κ x v) : VR κ' x v := hv.le f.le
theorem Fr.vrl {κ κ' : Cx} {h h' : AHeap} {w w' : World} (f : Fr κ h w κ' h' w') {x : List AV} {v : List Value} (hv : VRL κ x v) : VRL κ' x v := hv.le f.le

/-- The first m keep their places. -/
structure FrK (m : Nat) (κ : Cx) (h : AHeap) (w : World) (κ' : Cx) (h' : AHeap) (w' : World) : Prop where
  keep : ∀ i, i < m → κ'.pl[i]? = κ.pl[i]?
  fz : ∀ b c, κ.fz b = some c → κ'.fz b = some c
  fr : FrW κ h w κ' h' w'

theorem FrK.refl (m : Nat) (κ : Cx) (h : AHeap) (w : World) : FrK m κ h w κ h w := ⟨fun _ _ => rfl, fun _ _ h => h, .refl _ _ _⟩
theorem FrK.trans {m : Nat} {κ κ1 κ2 : Cx} {h h1 h2 : AHeap} {w w1 w2 : World} (a : FrK m κ h w κ1 h1 w1) (b : FrK m κ1 h1 w1 κ2 h2 w2) : FrK m κ h w κ2 h2 w2 :=
  ⟨fun i hi => (b.keep i hi).trans (a.keep i hi), fun c d h => b.fz c d (a.fz c d h), a.fr.trans b.fr⟩
/-- What keeps all keeps the first ones, where there are so many. -/
theorem Fr.k {κ κ' : Cx} {h h' : AHeap} {w w' : World} (f : Fr κ h w κ' h' w') {m : Nat} (hm : m ≤ κ.pl.length) : FrK m κ h w κ' h' w' :=
  ⟨fun i hi => by obtain ⟨τ, h1⟩ := f.le.pl; rw [h1, List.getElem?_append_left (by omega)], f.le.fz, f.fr⟩

theorem VRL.set {κ : Cx} {xs : List AV} {vs : List Value} (h : VRL κ xs vs) {x : AV} {v : Value} (hx : VR κ x v) (j : Nat) : VRL κ (xs.set j x) (vs.set j v) :=
  VRL.of_get (by simp [h.length]) fun i x' v' h1 h2 => by
    rw [List.getElem?_set] at h1 h2
    rw [h.length] at h2
    split at h1
    · rename_i hij
      rw [if_pos hij] at h2
      split at h1
      · rename_i hl; rw [if_pos hl] at h2; cases h1; cases h2; exact hx
      · cases h1
    · rename_i hij
      rw [if_neg hij] at h2
      obtain ⟨v'', h3, h4⟩ := h.get h1
      rw [h3] at h2; cases h2; exact h4

end Go.S2
