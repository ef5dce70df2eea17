/- Loops by an invariant: so many slots, so many objects. -/
import Derived.Test.YtabobghngfmilaaDoorS2I
set_option linter.unusedSimpArgs false
set_option linter.unusedVariables false
namespace Go.S2

/-- The slots that are known. -/
noncomputable def slots (l : List (Nat × AV)) : Nat → AV :=
  @List.rec (Nat × AV) (fun _ => Nat → AV) (fun _ => .undef) (fun p _ next j => match p with | (i, v) => bif Nat.beq j i then v else next j) l

def HasR (g : AV → AV) (t : Nat → AV) : List (Nat × AV) → Prop
  | [] => True
  | (i, v) :: r => g (t i) = v ∧ HasR g t r

theorem slots_has {g : AV → AV} {t : Nat → AV} : ∀ {l : List (Nat × AV)}, HasR g t l → ∀ j, slots l j = g (t j) ∨ slots l j = .undef
  | [], _, _ => .inr rfl
  | (i, v) :: r, h, j => by
    show (bif Nat.beq j i then v else slots r j) = _ ∨ (bif Nat.beq j i then v else slots r j) = _
    cases hb : Nat.beq j i with
    | true => rw [Nat.eq_of_beq_eq_true hb]; exact .inl h.1.symm
    | false => exact slots_has h.2 j

/-- The loop's state under other numbers. -/
theorem Loop.enter {m : Nat} {P : Program} {c : Code} {Q : AX → AF → AHeap → Prop} {t : Nat → AV} {N : Nat} {D D' : List (FuncId × List AV)} {h h' : AHeap} {sl : List (Nat × AV)} (l : List Nat) (hok : keepOk m h.length l = true)
    (hh : keepH (fun i => idx i l 0) h l = h') (hD : mapD (AV.ren fun i => idx i l 0) D = D') (hs : HasR (AV.ren fun i => idx i l 0) t sl) (s : Loop m P c Q ⟨slots sl, N, D'⟩ h') : Loop m P c Q ⟨t, N, D⟩ h := by
  subst hh; subst hD
  refine ⟨SLWP.step (HStep.keep l hok) (SLWP.weak (t := slots sl) (slots_has hs) s.lp)⟩

theorem Loop.to {m : Nat} {P : Program} {c : Code} {Q : AX → AF → AHeap → Prop} {t : Nat → AV} {N : Nat} {D D' : List (FuncId × List AV)} {h h' : AHeap} {sl : List (Nat × AV)} (s : Loop m P c Q ⟨slots sl, N, D'⟩ h') (l : List Nat) (hok : keepOk m h.length l = true)
    (hh : keepH (fun i => idx i l 0) h l = h') (hD : mapD (AV.ren fun i => idx i l 0) D = D') (hs : HasR (AV.ren fun i => idx i l 0) t sl) : Loop m P c Q ⟨t, N, D⟩ h := Loop.enter l hok hh hD hs s

/-- A loop: each round starts with these slots and that heap, and ends with others that are smaller, or leaves. -/
theorem Loop.ind {m : Nat} {E : Env} {c : Code} {Q : AX → AF → AHeap → Prop} {N : Nat} {D : List (FuncId × List AV)} {α : Type} (I : α → Prop) (sl : α → List (Nat × AV)) (hp : α → AHeap) (μ : α → Nat)
    (body : ∀ x, I x → (∀ x', I x' → μ x' < μ x → Loop m E.P c Q ⟨slots (sl x'), N, D⟩ (hp x')) → T m E c (thenA (Loop m E.P c Q) Q) ⟨slots (sl x), N, D⟩ (hp x)) :
    ∀ x, I x → Loop m E.P c Q ⟨slots (sl x), N, D⟩ (hp x) := by
  intro x
  generalize hn : μ x = n
  induction n using Nat.strongRecOn generalizing x with
  | ind n ih =>
    intro hx
    subst hn
    exact Loop.round (body x hx fun x' hx' hlt => ih _ hlt x' rfl hx')

theorem wrap64_id {n : Int} (h0 : -9223372036854775808 ≤ n) (h1 : n < 9223372036854775808) : IntKind.i64.wrap n = n := by
  rw [IntKind.wrap_i64]; omega

theorem wrap8_id {n : Int} (h0 : 0 ≤ n) (h1 : n < 256) : IntKind.u8.wrap n = n := by
  simp [IntKind.wrap, IntKind.bits, IntKind.signed]
  omega

end Go.S2
