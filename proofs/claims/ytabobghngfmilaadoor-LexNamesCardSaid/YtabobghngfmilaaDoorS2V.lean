/- Lists in cells. -/
import Derived.Test.YtabobghngfmilaaDoorS2O
set_option linter.unusedSimpArgs false
set_option linter.unusedVariables false
namespace Go.S2

def enc {α : Type} (f : α → List AV) : List α → List AV
  | [] => []
  | x :: l => f x ++ enc f l

section
variable {α : Type} {f : α → List AV} {n : Nat}

theorem enc_app (f : α → List AV) (l r : List α) : enc f (l ++ r) = enc f l ++ enc f r := by
  induction l with
  | nil => rfl
  | cons x l ih => simp [enc, ih]

theorem enc_one (f : α → List AV) (x : α) : enc f [x] = f x := by simp [enc]

theorem enc_len (hf : ∀ x, (f x).length = n) (l : List α) : (enc f l).length = l.length * n := by
  induction l with
  | nil => simp [enc]
  | cons x l ih => simp [enc, ih, hf, Nat.succ_mul, Nat.add_comm]

theorem enc_drop (hf : ∀ x, (f x).length = n) (l : List α) (i : Nat) : (enc f l).drop (i * n) = enc f (l.drop i) := by
  induction l generalizing i with
  | nil => simp [enc]
  | cons x l ih =>
    cases i with
    | zero => simp
    | succ i =>
      simp only [enc, List.drop_succ_cons]
      rw [← ih i, Nat.succ_mul, Nat.add_comm, ← List.drop_drop, List.drop_left' (hf x)]

theorem enc_take (hf : ∀ x, (f x).length = n) (l : List α) (i : Nat) : (enc f l).take (i * n) = enc f (l.take i) := by
  induction l generalizing i with
  | nil => simp [enc]
  | cons x l ih =>
    cases i with
    | zero => simp [enc]
    | succ i =>
      simp only [enc, List.take_succ_cons]
      rw [← ih i, Nat.succ_mul, Nat.add_comm]
      rw [List.take_append, hf x, List.take_of_length_le (by rw [hf x]; omega)]
      congr 2
      omega

/-- The i-th element's cells. -/
theorem enc_el (hf : ∀ x, (f x).length = n) (l : List α) (i : Nat) (h : i < l.length) : ((enc f l).drop (i * n)).take n = f l[i] := by
  rw [enc_drop hf, List.drop_eq_getElem_cons h]
  simp only [enc]
  rw [List.take_left' (hf _)]

theorem enc_el? (hf : ∀ x, (f x).length = n) {l : List α} {i : Nat} {x : α} (h : l[i]? = some x) : ((enc f l).drop (i * n)).take n = f x := by
  obtain ⟨h1, h2⟩ := List.getElem?_eq_some_iff.1 h
  rw [enc_el hf l i h1, h2]

theorem enc_elC (hf : ∀ x, (f x).length = n) {l : List α} {i : Nat} {x : α} (h : l[i]? = some x) : ((enc f l).drop (((i : Nat) : Int).toNat * n)).take n = f x := by
  rw [Int.toNat_natCast]; exact enc_el? hf h

/-- One cell of the i-th element. -/
theorem enc_cell (hf : ∀ x, (f x).length = n) {l : List α} {i j : Nat} {x : α} (h : l[i]? = some x) (hj : j < n) : (enc f l)[i * n + j]? = (f x)[j]? := by
  rw [← enc_el? hf h, List.getElem?_take, if_pos hj, List.getElem?_drop]

/-- The i-th element turned. -/
theorem enc_splice (hf : ∀ x, (f x).length = n) (l : List α) (i : Nat) (x : α) (h : i < l.length) : splice (enc f l) (i * n) (f x) = enc f (l.set i x) := by
  unfold splice
  rw [hf x, ← Nat.succ_mul, enc_take hf, enc_drop hf, ← enc_one f x, ← enc_app, ← enc_app]
  congr 1
  rw [List.set_eq_take_append_cons_drop, if_pos h]
  simp

theorem enc_whole (hf : ∀ x, (f x).length = n) (l : List α) : (enc f l).take (l.length * n) = enc f l := by
  rw [enc_take hf, List.take_length]

/-- One element more. -/
theorem enc_grow (hf : ∀ x, (f x).length = n) (l : List α) (x : α) : (enc f l).take (l.length * n) ++ f x = enc f (l ++ [x]) := by
  rw [enc_whole hf, enc_app, enc_one]

theorem enc_all (hf : ∀ x, (f x).all AV.one = true) (l : List α) : (enc f l).all AV.one = true := by
  induction l with
  | nil => rfl
  | cons x l ih => simp only [enc, List.all_append, hf x, ih, Bool.and_self]

end

/-- A list that is grown: nil, or an object of its own. -/
def vecV {α : Type} (id esz : Nat) : List α → AV
  | [] => .sl none 0 0 true
  | a :: l => .sl (some (id, 0)) (a :: l).length esz false
def vecO {α : Type} (ty : TypeId) (f : α → List AV) : List α → AHeap
  | [] => []
  | a :: l => [⟨ty, enc f (a :: l), .vec⟩]
/-- The same, where the object has its number anyway. -/
def vecD {α : Type} (ty : TypeId) (f : α → List AV) : List α → AObj
  | [] => deadObj
  | a :: l => ⟨ty, enc f (a :: l), .vec⟩

theorem take_min {α : Type} (l : List α) (n : Nat) : l.take (min l.length n) = l.take n := by
  rcases Nat.le_total l.length n with h | h
  · rw [Nat.min_eq_left h, List.take_length, List.take_of_length_le h]
  · rw [Nat.min_eq_right h]

end Go.S2
