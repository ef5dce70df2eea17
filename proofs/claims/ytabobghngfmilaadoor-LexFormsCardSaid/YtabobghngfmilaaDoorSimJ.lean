/- Loops by what they know of their slots; small words for proofs. -/
import Derived.Test.YtabobghngfmilaaDoorSimI
set_option linter.unusedSimpArgs false
set_option linter.unusedVariables false
namespace Go.Sim

def Has (t : Nat → AV) : List (Nat × AV) → Prop
  | [] => True
  | p :: l => t p.1 = p.2 ∧ Has t l

def ovl (base : Nat → AV) : List (Nat × AV) → Nat → AV
  | [] => base
  | p :: l => putT (ovl base l) (some p.1) p.2

theorem putT_self {t : Nat → AV} {i : Nat} {v : AV} (h : t i = v) : putT t (some i) v = t := by
  funext j
  show (bif Nat.beq j i then v else t j) = t j
  cases hb : Nat.beq j i with
  | false => rfl
  | true => rw [Nat.eq_of_beq_eq_true hb, h]; rfl

theorem ovl_has {t : Nat → AV} : ∀ {l : List (Nat × AV)}, Has t l → ovl t l = t
  | [], _ => rfl
  | p :: l, h => by
    show putT (ovl t l) (some p.1) p.2 = t
    rw [ovl_has h.2]
    exact putT_self h.1

/-- A loop: each round starts with these slots and that heap, and ends with others that are smaller, or leaves. -/
theorem Loop.ind {E : Env} {c : Code} {Q : AX → AF → AHeap → Prop} {N : Nat} {D : List (FuncId × List AV)} {α : Type} (I : α → Prop) (sl : α → List (Nat × AV)) (hp : α → AHeap) (μ : α → Nat)
    (step : ∀ x base, I x → (∀ y t, I y → μ y < μ x → Has t (sl y) → Loop E.P c Q ⟨t, N, D⟩ (hp y)) → T E c (thenA (Loop E.P c Q) Q) ⟨ovl base (sl x), N, D⟩ (hp x))
    {x : α} (h0 : I x) {t : Nat → AV} (ht : Has t (sl x)) : Loop E.P c Q ⟨t, N, D⟩ (hp x) := by
  have key : ∀ n x t, μ x = n → I x → Has t (sl x) → Loop E.P c Q ⟨t, N, D⟩ (hp x) := by
    intro n
    induction n using Nat.strongRecOn with
    | _ n ih =>
      intro x t hn hI ht
      have h1 := step x t hI fun y u hy hlt hu => ih (μ y) (by omega) y u rfl hy hu
      rw [ovl_has ht] at h1
      exact Loop.round h1
  exact key _ x t rfl h0 ht

theorem wrap64_id {n : Int} (h0 : -9223372036854775808 ≤ n) (h1 : n < 9223372036854775808) : IntKind.i64.wrap n = n := by
  rw [IntKind.wrap_i64]; omega

theorem wrap8_id {n : Int} (h0 : 0 ≤ n) (h1 : n < 256) : IntKind.u8.wrap n = n := by
  simp [IntKind.wrap, IntKind.bits, IntKind.signed]
  omega

end Go.Sim
