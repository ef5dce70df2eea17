/- The lexer in plain lists: what a text's tokens are. -/
import Derived.Test.YtabobghngfmilaaDoorS2O
namespace Go.Lx
open Go.S2

def letterB (c : UInt8) : Bool := decide (97 ≤ (c.toNat : Int)) && decide ((c.toNat : Int) ≤ 122)
def digitB (c : UInt8) : Bool := decide (48 ≤ (c.toNat : Int)) && decide ((c.toNat : Int) ≤ 57)
def innerB (c : UInt8) : Bool := letterB c || digitB c || decide (c = 95)

def runL (g : UInt8 → Bool) : List UInt8 → Nat
  | [] => 0
  | c :: s => bif g c then runL g s + 1 else 0

theorem runL_le (g : UInt8 → Bool) : ∀ s, runL g s ≤ s.length
  | [] => Nat.le_refl _
  | c :: s => by
    have := runL_le g s
    cases h : g c <;> simp [runL, h] <;> omega

theorem runL_at (g : UInt8 → Bool) : ∀ (s : List UInt8) (n : Nat), n < runL g s → g (s.getD n 0) = true
  | [], n, h => by simp [runL] at h
  | c :: s, n, h => by
    cases hg : g c with
    | false => simp [runL, hg] at h
    | true =>
      simp only [runL, hg, cond_true] at h
      cases n with
      | zero => simpa using hg
      | succ n => simpa using runL_at g s n (by omega)

theorem runL_stop (g : UInt8 → Bool) : ∀ (s : List UInt8), runL g s < s.length → g (s.getD (runL g s) 0) = false
  | [], h => by simp at h
  | c :: s, h => by
    cases hg : g c with
    | false => simp [runL, hg]
    | true =>
      simp only [runL, hg, cond_true, List.length_cons] at h ⊢
      simpa using runL_stop g s (by omega)

theorem runL_of (g : UInt8 → Bool) (s : List UInt8) (n : Nat) (hn : n ≤ s.length) (h1 : ∀ j, j < n → g (s.getD j 0) = true) (h2 : n < s.length → g (s.getD n 0) = false) : runL g s = n := by
  rcases Nat.lt_trichotomy (runL g s) n with h | h | h
  · have := h1 _ h
    rw [runL_stop g s (by omega)] at this; cases this
  · exact h
  · have := runL_at g s n h
    rw [h2 (by have := runL_le g s; omega)] at this; cases this

def wordB (s : List UInt8) : Bool :=
  match s with
  | [] => false
  | c :: _ => decide (s.length ≤ 16) && letterB c && decide (runL innerB s = s.length)

/-- What parts tokens: the rest, the line, the column. -/
def blanksL : Bool → List UInt8 → Nat → Nat → List UInt8 × Nat × Nat
  | _, [], l, c => ([], l, c)
  | inC, x :: s, l, c =>
    bif decide (x = 10) then blanksL false s (l + 1) 1
    else bif inC then blanksL true s l (c + 1)
    else bif decide (x = 32) || decide (x = 9) then blanksL false s l (c + 1)
    else bif decide (x = 35) then blanksL true s l (c + 1)
    else (x :: s, l, c)

structure Tk where
  kind : Nat
  n : Nat
  line : Nat
  col : Nat
  text : List UInt8
  deriving DecidableEq

def signsL : List UInt8 := [40, 41, 123, 125, 91, 93, 44, 59, 58, 61, 46, 43, 45, 42, 60, 94, 33, 63]

def valL : List UInt8 → Nat → Nat
  | [], a => a
  | c :: s, a => valL s (a * 10 + (c.toNat - 48))

/-- The next token: itself and how many bytes it takes; none where there is none. -/
def tokenL (s : List UInt8) (l c : Nat) : Option (Tk × Nat) :=
  match s with
  | [] => some (⟨4, 0, l, c, []⟩, 0)
  | x :: _ =>
    bif letterB x then
      let n := runL innerB s
      bif decide (16 < n) then none else some (⟨1, 0, l, c, s.take n⟩, n)
    else bif digitB x then
      let n := runL digitB s
      bif decide (9 < n) || (decide (x = 48) && decide (1 < n)) then none else some (⟨2, valL (s.take n) 0, l, c, s.take n⟩, n)
    else bif decide (0 ≤ idxL signsL x) then some (⟨3, 0, l, c, s.take 1⟩, 1)
    else none

/-- All of a text, or where it is wrong. -/
def toksL : Nat → List UInt8 → Nat → Nat → List Tk → (List Tk) × Nat × Nat × Nat
  | 0, _, _, _, _ => ([], 0, 0, 0)
  | f + 1, s, l, c, acc =>
    match blanksL false s l c with
    | (s1, l1, c1) =>
      match tokenL s1 l1 c1 with
      | none => ([], l1, c1, 2)
      | some (t, n) =>
        bif decide (t.kind = 4) then (acc ++ [t], 0, 0, 0)
        else toksL f (s1.drop n) l1 (c1 + n) (acc ++ [t])

def lexL (s : List UInt8) : (List Tk) × Nat × Nat × Nat :=
  bif decide (16384 < s.length) then ([], 0, 0, 3) else toksL (s.length + 1) s 1 1 []

end Go.Lx
