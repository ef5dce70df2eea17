/- Package lex: all tokens of a text. -/
import Derived.Test.YtabobghngfmilaaDoorLx4
set_option linter.unusedSimpArgs false
namespace Go.S2.Tryd
open Go.Proofs Go.Lx

theorem tkC_len (t : Tk) : (tkC t).length = 5 := rfl

theorem blanksL_len : ∀ (b : Bool) (s : List UInt8) (l c : Nat), (blanksL b s l c).1.length ≤ s.length ∧ (blanksL b s l c).2.1 + (blanksL b s l c).1.length ≤ l + s.length ∧ (blanksL b s l c).2.2 + (blanksL b s l c).1.length ≤ max 1 c + s.length
  | _, [], l, c => by simp [blanksL]; omega
  | b, x :: s, l, c => by
    unfold blanksL
    have h1 := blanksL_len false s (l + 1) 1
    have h2 := blanksL_len true s l (c + 1)
    have h3 := blanksL_len false s l (c + 1)
    cases decide (x = 10) <;> cases b <;> cases decide (x = 32) || decide (x = 9) <;> cases decide (x = 35) <;> simp only [cond_true, cond_false, List.length_cons] <;> omega

theorem tokenL_len (s : List UInt8) (l c : Nat) {t : Tk} {n : Nat} (h : tokenL s l c = some (t, n)) : (t.kind = 4 ∧ n = 0) ∨ (t.kind ≠ 4 ∧ 1 ≤ n ∧ n ≤ s.length) := by
  cases s with
  | nil => simp [tokenL] at h; obtain ⟨rfl, rfl⟩ := h; simp
  | cons x s =>
    rw [tokenL_pos (x :: s) l c (by simp) x (by simp)] at h
    have hi := runL_le innerB (x :: s)
    have hd := runL_le digitB (x :: s)
    cases q1 : letterB x with
    | true =>
      have hp := runL_pos innerB (x :: s) (by simp) (by simp [innerB, q1])
      rw [q1] at h
      simp only [cond_true] at h
      cases q2 : decide (16 < runL innerB (x :: s)) with
      | true => rw [q2] at h; simp at h
      | false =>
        rw [q2] at h; simp at h
        obtain ⟨rfl, rfl⟩ := h
        exact .inr ⟨by simp, hp, hi⟩
    | false =>
      rw [q1] at h
      simp only [cond_false] at h
      cases q2 : digitB x with
      | true =>
        have hp := runL_pos digitB (x :: s) (by simp) (by simp [q2])
        rw [q2] at h
        simp only [cond_true] at h
        cases q3 : decide (9 < runL digitB (x :: s)) || (decide (x = 48) && decide (1 < runL digitB (x :: s))) with
        | true => rw [q3] at h; simp at h
        | false =>
          rw [q3] at h; simp at h
          obtain ⟨rfl, rfl⟩ := h
          exact .inr ⟨by simp, hp, hd⟩
      | false =>
        rw [q2] at h
        simp only [cond_false] at h
        cases q3 : decide (0 ≤ idxL signsL x) with
        | true =>
          rw [q3] at h; simp at h
          obtain ⟨rfl, rfl⟩ := h
          exact .inr ⟨by simp, by simp, by simp⟩
        | false => rw [q3] at h; simp at h

structure TS where
  f : Nat
  s : List UInt8
  l : Nat
  c : Nat
  acc : List Tk

/-- A text's tokens: the list, and where it is wrong. -/
def TokR (R : List Tk × Nat × Nat × Nat) : AV := .tu [.im (enc tkC R.1) R.1.length, .i .i64 R.2.1, .i .i64 R.2.2.1, .i .i64 R.2.2.2]

theorem tokens_spec (s : List UInt8) (hs : s.length < 9223372036854775807) : Call Tryd.prog 10 [.s s] (fun r h => h = [] ∧ r = .ret (TokR (lexL s))) [] := by
  refine Call.of_body (E := E) Tryd.func10 Tryd.ntmps10 (rs := [_, _, _, _]) Tryd.results10 rfl (by decide) rfl ?_
  conv => whnf
  by_cases h1 : 16384 < s.length
  · rw [decide_eq_true (show (16384 : Int) < (s.length : Nat) by omega)]
    have : lexL s = ([], 0, 0, 3) := by unfold lexL; rw [decide_eq_true h1]; rfl
    rw [this]
    conv => whnf
    exact .nil (.keep [] rfl ⟨rfl, rfl⟩)
  · rw [decide_eq_false (show ¬ (16384 : Int) < (s.length : Nat) by omega)]
    have : lexL s = toksL (s.length + 1) s 1 1 [] := by unfold lexL; rw [decide_eq_false h1]; rfl
    rw [this]
    generalize hR : toksL (s.length + 1) s 1 1 [] = R
    conv => whnf
    refine (Loop.ind (fun x : TS => toksL x.f x.s x.l x.c x.acc = R ∧ x.s.length < x.f ∧ x.l + x.s.length ≤ 20000 ∧ x.c + x.s.length ≤ 20000 ∧ x.acc.length + x.s.length ≤ 16384)
      (fun x => [(2, vecV 1 5 x.acc), (6, .p (some (0, 0)))]) (fun x => rdO x.s x.l x.c :: vecO 52 tkC x.acc) (fun x => x.f) ?_ ⟨s.length + 1, s, 1, 1, []⟩
      ⟨hR, by simp, by simp; omega, by simp; omega, by simp; omega⟩).to [0] rfl rfl rfl ⟨rfl, rfl, trivial⟩
    rintro ⟨f, s, l, c, acc⟩ ⟨i1, i2, i3, i4, i5⟩ ih
    cases f with
    | zero => exact absurd i2 (Nat.not_lt_zero _)
    | succ f =>
    replace i1 : toksL (f + 1) s l c acc = R := i1
    replace i2 : s.length < f + 1 := i2
    replace i3 : l + s.length ≤ 20000 := i3
    replace i4 : c + s.length ≤ 20000 := i4
    replace i5 : acc.length + s.length ≤ 16384 := i5
    obtain ⟨b1, b2, b3⟩ := blanksL_len false s l c
    have bs := blanks_spec s l c (by omega) (by omega)
    unfold toksL at i1
    generalize blanksL false s l c = B at b1 b2 b3 i1 bs
    obtain ⟨s1, l1, c1⟩ := B
    dsimp only at i1 bs
    replace b1 : s1.length ≤ s.length := b1
    replace b2 : l1 + s1.length ≤ l + s.length := b2
    replace b3 : c1 + s1.length ≤ max 1 c + s.length := b3
    have ts := token_spec s1 l1 c1 (by omega) (by omega)
    rcases acc with _ | ⟨a, b⟩
    all_goals
      conv => whnf
      refine bs.at [0] rfl rfl rfl ?_
      rintro r h' ⟨rfl, rfl⟩
      conv => whnf
      refine ts.at [0] rfl rfl rfl ?_
      intro r h' hT
      cases ht : tokenL s1 l1 c1 with
      | none =>
        rw [ht] at hT i1
        obtain ⟨rfl, rfl⟩ := hT
        replace i1 : ([], l1, c1, 2) = R := i1
        subst i1
        conv => whnf
        refine Rest.drawW (E := E) [] mixed (by decide +kernel) ?_
        conv => whnf
        exact .nil (.keep [] rfl ⟨rfl, rfl⟩)
      | some tn =>
        obtain ⟨t, n⟩ := tn
        rw [ht] at hT i1
        obtain ⟨rfl, rfl⟩ := hT
        have htl := tokenL_len s1 l1 c1 ht
        dsimp only at i1
        conv => whnf
        first
          | refine ⟨rfl, by decide, by decide, ?_⟩
          | refine ⟨Nat.le_of_eq (enc_len tkC_len _).symm, by show (_ + 1) * 48 ≤ _; simp only [List.length_cons] at i5 ⊢; omega, by simp only [List.length_cons] at i5 ⊢; omega, ?_⟩
        conv => whnf
        by_cases hk : t.kind = 4
        · rw [decide_eq_true (show (t.kind : Int) = 4 by omega)]
          rw [decide_eq_true hk] at i1
          replace i1 : (_ ++ [t], 0, 0, 0) = R := i1
          subst i1
          conv => whnf
          first
            | exact .frz [3] (.keep [] rfl ⟨rfl, rfl⟩)
            | refine .frz [4] (.keep [] rfl ⟨rfl, ?_⟩)
              show AE.ret (.tu [.im (((((enc tkC (a :: b)).take ((a :: b).length * 5)) ++ tkC t).drop 0).take (((a :: b).length + 1) * 5)) ((a :: b).length + 1), _, _, _]) = _
              rw [enc_grow tkC_len, List.drop_zero, List.take_of_length_le (by rw [enc_len tkC_len]; simp)]
              simp only [TokR, List.length_append, List.length_cons, List.length_nil]
              rfl
        · rw [decide_eq_false (show ¬ (t.kind : Int) = 4 by omega)]
          rw [decide_eq_false hk] at i1
          replace i1 : toksL f (s1.drop n) l1 (c1 + n) (_ ++ [t]) = R := i1
          conv => whnf
          first
            | refine (ih ⟨f, s1.drop n, l1, c1 + n, [t]⟩ ⟨i1, ?_, ?_, ?_, ?_⟩ (Nat.lt_succ_self f)).to [0, 3] rfl rfl rfl ⟨rfl, rfl, trivial⟩
            | refine (ih ⟨f, s1.drop n, l1, c1 + n, (a :: b) ++ [t]⟩ ⟨i1, ?_, ?_, ?_, ?_⟩ (Nat.lt_succ_self f)).to [0, 4] rfl ?_ rfl ⟨?_, rfl, trivial⟩
              rotate_left 4
              · show [rdO (s1.drop n) l1 (c1 + n), AObj.mk _ ((enc tkC (a :: b)).take ((a :: b).length * 5) ++ tkC t) .vec] = _
                rw [enc_grow tkC_len]; rfl
              · show AV.sl (some (1, 0)) ((a :: b).length + 1) 5 false = AV.sl (some (1, 0)) ((a :: b) ++ [t]).length 5 false
                congr 1; simp
          all_goals
            simp only [List.length_drop, List.length_append, List.length_cons, List.length_nil] at i5 ⊢
            omega

end Go.S2.Tryd
