/- A plain abstract reading of the machine: values, heap, what relates them to the machine's own. -/
import Derived.WalkKit
import Derived.Orders
import Derived.Recover
namespace Go.Sim

/-- Values with abstract addresses: an address is an object's number and a cell's place in it. -/
inductive AV where
  | undef
  | b (x : Bool)
  | i (k : IntKind) (n : Int)
  | s (x : List UInt8)
  | p (a : Option (Nat × Nat))
  | sl (a : Option (Nat × Nat)) (len esz : Nat) (tight : Bool)
  | fn (f : Fn) (first caps : List AV)
  | nofn
  | ifc (t : TypeId) (v : AV)
  | noif
  | ag (cs : List AV)
  | tu (vs : List AV)
  deriving Inhabited

inductive AKind where
  | rw | ro | dead
  deriving DecidableEq, Inhabited

structure AObj where
  ty : TypeId
  cells : List AV
  st : AKind
  deriving Inhabited

abbrev AHeap := List AObj

/-- Where an object lies: its block, the cell in it where it begins, how many cells the block has. -/
structure Pl where
  blk : Nat
  base : Nat
  size : Nat
  deriving Inhabited

mutual
def VR (ρ : List Pl) : AV → Value → Prop
  | .undef, _ => True
  | .b x, v => v = .bool x
  | .i k n, v => v = .int k n
  | .s x, v => v = .string ⟨x.toArray⟩
  | .p none, v => v = .pointer none
  | .p (some a), v => ∃ pl, ρ[a.1]? = some pl ∧ v = .pointer (some ⟨pl.blk, pl.base + a.2, none⟩)
  | .sl none len _ _, v => len = 0 ∧ v = .slice none 0 0
  | .sl (some a) len esz t, v => (len = 0 ∧ a.2 ≠ 0 ∧ (∃ pl, ρ[a.1]? = some pl) ∧ ∃ ad, v = .slice (some ad) 0 0) ∨ ∃ pl cap, ρ[a.1]? = some pl ∧ v = .slice (some ⟨pl.blk, pl.base + a.2, none⟩) len cap ∧ len ≤ cap ∧ cap ≤ maxLen ∧
      pl.base + a.2 + cap * esz ≤ pl.size ∧ (t = true → cap = len) ∧ (t = false → pl.base + a.2 + cap * esz = pl.size)
  | .fn f first caps, v => ∃ F C : List Value, v = .func f F.toArray C.toArray ∧ VRL ρ first F ∧ VRL ρ caps C
  | .nofn, v => v = .nilFunc
  | .ifc t x, v => ∃ y, v = .iface t y ∧ VR ρ x y
  | .noif, v => v = .nilIface
  | .ag cs, v => ∃ C : List Value, v = .agg C.toArray ∧ VRL ρ cs C
  | .tu vs, v => ∃ C : List Value, v = .tuple C.toArray ∧ VRL ρ vs C
def VRL (ρ : List Pl) : List AV → List Value → Prop
  | [], l => l = []
  | x :: xs, l => ∃ y ys, l = y :: ys ∧ VR ρ x y ∧ VRL ρ xs ys
end

mutual
theorem VR.ext {ρ τ : List Pl} : ∀ {x : AV} {v : Value}, VR ρ x v → VR (ρ ++ τ) x v
  | .undef, _, _ => by simp [VR]
  | .b _, _, h => by simpa [VR] using h
  | .i _ _, _, h => by simpa [VR] using h
  | .s _, _, h => by simpa [VR] using h
  | .p none, _, h => by simpa [VR] using h
  | .p (some a), _, h => by
    simp only [VR] at h ⊢
    obtain ⟨pl, h1, h2⟩ := h
    exact ⟨pl, by rw [List.getElem?_append_left (List.getElem?_eq_some_iff.1 h1).1]; exact h1, h2⟩
  | .sl none _ _ _, _, h => by simpa [VR] using h
  | .sl (some a) _ _ _, _, h => by
    simp only [VR] at h ⊢
    rcases h with ⟨g1, g2, ⟨pl, g3⟩, g4⟩ | ⟨pl, cap, h1, h2⟩
    · exact .inl ⟨g1, g2, ⟨pl, by rw [List.getElem?_append_left (List.getElem?_eq_some_iff.1 g3).1]; exact g3⟩, g4⟩
    · exact .inr ⟨pl, cap, by rw [List.getElem?_append_left (List.getElem?_eq_some_iff.1 h1).1]; exact h1, h2⟩
  | .fn _ _ _, _, h => by
    simp only [VR] at h ⊢
    obtain ⟨F, C, h1, h2, h3⟩ := h
    exact ⟨F, C, h1, VRL.ext h2, VRL.ext h3⟩
  | .nofn, _, h => by simpa [VR] using h
  | .ifc _ _, _, h => by
    simp only [VR] at h ⊢
    obtain ⟨y, h1, h2⟩ := h
    exact ⟨y, h1, VR.ext h2⟩
  | .noif, _, h => by simpa [VR] using h
  | .ag _, _, h => by
    simp only [VR] at h ⊢
    obtain ⟨C, h1, h2⟩ := h
    exact ⟨C, h1, VRL.ext h2⟩
  | .tu _, _, h => by
    simp only [VR] at h ⊢
    obtain ⟨C, h1, h2⟩ := h
    exact ⟨C, h1, VRL.ext h2⟩
theorem VRL.ext {ρ τ : List Pl} : ∀ {xs : List AV} {vs : List Value}, VRL ρ xs vs → VRL (ρ ++ τ) xs vs
  | [], _, h => by simpa [VRL] using h
  | _ :: _, _, h => by
    simp only [VRL] at h ⊢
    obtain ⟨y, ys, h1, h2, h3⟩ := h
    exact ⟨y, ys, h1, VR.ext h2, VRL.ext h3⟩
end

theorem VRL.length {ρ : List Pl} : ∀ {xs : List AV} {vs : List Value}, VRL ρ xs vs → vs.length = xs.length
  | [], _, h => by simp only [VRL] at h; simp [h]
  | _ :: _, _, h => by
    simp only [VRL] at h
    obtain ⟨y, ys, rfl, _, h3⟩ := h
    simp [VRL.length h3]

theorem VRL.get {ρ : List Pl} : ∀ {xs : List AV} {vs : List Value}, VRL ρ xs vs → ∀ {j : Nat} {x : AV}, xs[j]? = some x → ∃ v, vs[j]? = some v ∧ VR ρ x v
  | [], _, _, j, x, hx => by simp at hx
  | _ :: _, _, h, j, x, hx => by
    simp only [VRL] at h
    obtain ⟨y, ys, rfl, h2, h3⟩ := h
    cases j with
    | zero => simp at hx; subst hx; exact ⟨y, rfl, h2⟩
    | succ j => exact VRL.get h3 (j := j) (by simpa using hx)

theorem VRL.of_get {ρ : List Pl} : ∀ {xs : List AV} {vs : List Value}, vs.length = xs.length → (∀ (j : Nat) x v, xs[j]? = some x → vs[j]? = some v → VR ρ x v) → VRL ρ xs vs
  | [], vs, hl, _ => by simp only [VRL]; exact List.eq_nil_of_length_eq_zero (by simpa using hl)
  | x :: xs, [], hl, _ => by simp at hl
  | x :: xs, v :: vs, hl, h => by
    simp only [VRL]
    exact ⟨v, vs, rfl, h 0 x v rfl rfl, VRL.of_get (by simpa using hl) fun j x' v' h1 h2 => h (j + 1) x' v' (by simpa using h1) (by simpa using h2)⟩

theorem VRL.append {ρ : List Pl} : ∀ {xs ys : List AV} {vs us : List Value}, VRL ρ xs vs → VRL ρ ys us → VRL ρ (xs ++ ys) (vs ++ us)
  | [], _, _, _, h1, h2 => by simp only [VRL] at h1; subst h1; simpa using h2
  | _ :: _, _, _, _, h1, h2 => by
    simp only [VRL] at h1
    obtain ⟨y, ys, rfl, h3, h4⟩ := h1
    simp only [List.cons_append, VRL]
    exact ⟨y, _, rfl, h3, VRL.append h4 h2⟩

theorem VRL.take {ρ : List Pl} {xs : List AV} {vs : List Value} (h : VRL ρ xs vs) (n : Nat) : VRL ρ (xs.take n) (vs.take n) :=
  VRL.of_get (by simp [h.length]) fun j x v h1 h2 => by
    rw [List.getElem?_take] at h1 h2
    split at h1
    · rename_i hj; rw [if_pos hj] at h2
      obtain ⟨v', h3, h4⟩ := h.get h1
      rw [h3] at h2; cases h2; exact h4
    · cases h1

theorem VRL.drop {ρ : List Pl} {xs : List AV} {vs : List Value} (h : VRL ρ xs vs) (n : Nat) : VRL ρ (xs.drop n) (vs.drop n) :=
  VRL.of_get (by simp [h.length]) fun j x v h1 h2 => by
    rw [List.getElem?_drop] at h1 h2
    obtain ⟨v', h3, h4⟩ := h.get h1
    rw [h3] at h2; cases h2; exact h4

theorem VRL.split {ρ : List Pl} : ∀ {xs ys : List AV} {vs : List Value}, VRL ρ (xs ++ ys) vs → ∃ us ws, vs = us ++ ws ∧ VRL ρ xs us ∧ VRL ρ ys ws
  | [], _, vs, h => ⟨[], vs, rfl, by simp [VRL], by simpa using h⟩
  | _ :: _, _, _, h => by
    simp only [List.cons_append, VRL] at h
    obtain ⟨y, t, rfl, h1, h2⟩ := h
    obtain ⟨us, ws, rfl, h3, h4⟩ := VRL.split h2
    exact ⟨y :: us, ws, rfl, by simp only [VRL]; exact ⟨y, us, rfl, h1, h3⟩, h4⟩

@[simp] theorem VRL.nil {ρ : List Pl} : VRL ρ [] [] := by simp [VRL]
theorem VRL.cons {ρ : List Pl} {x : AV} {v : Value} {xs : List AV} {vs : List Value} (h1 : VR ρ x v) (h2 : VRL ρ xs vs) : VRL ρ (x :: xs) (v :: vs) := by
  simp only [VRL]; exact ⟨v, vs, rfl, h1, h2⟩

theorem VRL.set {ρ : List Pl} {xs : List AV} {vs : List Value} (h : VRL ρ xs vs) {x : AV} {v : Value} (hx : VR ρ x v) (j : Nat) : VRL ρ (xs.set j x) (vs.set j v) :=
  VRL.of_get (by simp [h.length]) fun i x' v' h1 h2 => by
    rw [List.getElem?_set] at h1 h2
    rw [h.length] at h2
    split at h1
    · rename_i hij
      rw [if_pos hij] at h2
      split at h1
      · rename_i hl; rw [if_pos hl] at h2; cases h1; cases h2; exact hx
      · cases h1
    · rename_i hij
      rw [if_neg hij] at h2
      obtain ⟨v'', h3, h4⟩ := h.get h1
      rw [h3] at h2; cases h2; exact h4

/-! ### The heap -/

/-- An object lies in the world where ρ says. -/
def ObjR (ρ : List Pl) (o : AObj) (pl : Pl) (w : World) : Prop :=
  ∃ cur e fz, w.heap[pl.blk]? = some (.cells cur e fz) ∧ cur.size = pl.size ∧ pl.base + o.cells.length ≤ cur.size ∧
    VRL ρ o.cells ((cur.toList.drop pl.base).take o.cells.length) ∧
    (o.st = .rw → e = o.ty ∧ fz = (0, 0) ∧ pl.base = 0)

structure HR (P : Program) (ρ : List Pl) (h : AHeap) (w : World) : Prop where
  len : ρ.length = h.length
  glob : ∀ g, g < P.globals.size → ∃ pl, ρ[g]? = some pl ∧ pl.blk = g ∧ pl.base = 0
  obj : ∀ (id : Nat) o pl, h[id]? = some o → ρ[id]? = some pl → o.st ≠ .dead → ObjR ρ o pl w
  excl : ∀ (i j : Nat) o o' pl pl', h[i]? = some o → h[j]? = some o' → ρ[i]? = some pl → ρ[j]? = some pl' → o.st = .rw → o'.st ≠ .dead → i ≠ j → pl.blk ≠ pl'.blk

def Owned (ρ : List Pl) (h : AHeap) (k : Nat) : Prop := ∃ (id : Nat) (o : AObj) (pl : Pl), h[id]? = some o ∧ ρ[id]? = some pl ∧ o.st = .rw ∧ pl.blk = k

/-- What a step, or many, leave as it was. -/
structure Fr (ρ : List Pl) (h : AHeap) (w : World) (ρ' : List Pl) (h' : AHeap) (w' : World) : Prop where
  pre : ∃ τ, ρ' = ρ ++ τ
  os : w'.os = w.os
  tape : w'.tape = w.tape
  output : w'.output = w.output
  size : w.heap.size ≤ w'.heap.size
  block : ∀ k, k < w.heap.size → ¬ Owned ρ h k → w'.heap[k]? = w.heap[k]?
  own : ∀ k, Owned ρ' h' k → Owned ρ h k ∨ w.heap.size ≤ k

theorem Fr.refl (ρ : List Pl) (h : AHeap) (w : World) : Fr ρ h w ρ h w := ⟨⟨[], by simp⟩, rfl, rfl, rfl, Nat.le_refl _, fun _ _ _ => rfl, fun _ h => .inl h⟩

theorem Fr.trans {ρ ρ1 ρ2 : List Pl} {h h1 h2 : AHeap} {w w1 w2 : World} (a : Fr ρ h w ρ1 h1 w1) (b : Fr ρ1 h1 w1 ρ2 h2 w2) : Fr ρ h w ρ2 h2 w2 := by
  obtain ⟨τ, rfl⟩ := a.pre
  obtain ⟨σ, rfl⟩ := b.pre
  refine ⟨⟨τ ++ σ, by simp⟩, b.os.trans a.os, b.tape.trans a.tape, b.output.trans a.output, Nat.le_trans a.size b.size, fun k hk ho => ?_, fun k hk => ?_⟩
  · rw [b.block k (Nat.lt_of_lt_of_le hk a.size) fun ho1 => ?_, a.block k hk ho]
    rcases a.own k ho1 with h | h
    · exact ho h
    · omega
  · rcases b.own k hk with h | h
    · exact a.own k h
    · exact .inr (Nat.le_trans a.size h)

theorem Fr.vr {ρ ρ' : List Pl} {h h' : AHeap} {w w' : World} (f : Fr ρ h w ρ' h' w') {x : AV} {v : Value} (hv : VR ρ x v) : VR ρ' x v := by
  obtain ⟨τ, rfl⟩ := f.pre; exact hv.ext
theorem Fr.vrl {ρ ρ' : List Pl} {h h' : AHeap} {w w' : World} (f : Fr ρ h w ρ' h' w') {x : List AV} {v : List Value} (hv : VRL ρ x v) : VRL ρ' x v := by
  obtain ⟨τ, rfl⟩ := f.pre; exact hv.ext

end Go.Sim
