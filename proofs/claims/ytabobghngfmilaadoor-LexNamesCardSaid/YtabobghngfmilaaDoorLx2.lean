/- Package lex: the reader's steps. -/
import Derived.Test.YtabobghngfmilaaDoorLx1
set_option linter.unusedSimpArgs false
namespace Go.S2.Tryd
open Go.Proofs Go.Lx

/-- The reader: what is left, the line, the column. -/
def rdO (s : List UInt8) (l c : Nat) : AObj := ⟨50, [.s s, .i .i64 l, .i .i64 c], .rw⟩

theorem skip_spec (s : List UInt8) (l c n : Nat) (hn : n ≤ s.length) (hc : c + n < 9223372036854775807) :
    Call Tryd.prog 46 [.p (some (0, 0)), .i .i64 n] (fun r h => h = [rdO (s.drop n) l (c + n)] ∧ r = .ret (.tu [])) [rdO s l c] := by
  refine Call.of_body (E := E) Tryd.func46 Tryd.ntmps46 (rs := []) Tryd.results46 rfl (by decide) rfl ?_
  conv => whnf
  refine Rest.drawW (E := E) [16, 19] mixed (by decide +kernel) ?_
  conv => whnf
  refine ⟨by omega, by omega, Int.le_refl _, ?_⟩
  conv => whnf
  refine .here ⟨?_, rfl⟩
  show [AObj.mk _ [_, _, _] .rw] = _
  rw [wrap64_id (by omega) (by omega)]
  simp [rdO, List.take_of_length_le]

def noEnd (c : UInt8) : Bool := !decide (c = 10)

theorem noEnd_spec (c : UInt8) : Call Tryd.prog 47 [.i .u8 c.toNat] (fun r h => h = [] ∧ r = .ret (.b (noEnd c))) [] := by
  refine Call.of_body (E := E) Tryd.func47 Tryd.ntmps47 (rs := [_]) Tryd.results47 rfl (by decide) rfl ?_
  conv => whnf
  refine .here ⟨rfl, ?_⟩
  unfold noEnd
  rw [show (10 : UInt8) = UInt8.ofNat 10 from rfl, ← u8_eq c 10 (by decide)]
  rfl

theorem blanksL_true : ∀ (s : List UInt8) (l c : Nat), blanksL true s l c = blanksL false (s.drop (runL noEnd s)) l (c + runL noEnd s)
  | [], l, c => rfl
  | x :: s, l, c => by
    unfold blanksL
    cases h : decide (x = 10) with
    | true => simp [runL, noEnd, h, blanksL]
    | false =>
      have ih := blanksL_true s l (c + 1)
      simp only [cond_false, cond_true, runL, noEnd, h, Bool.not_false]
      rw [ih]
      simp only [List.drop_succ_cons]
      rw [show c + 1 + runL noEnd s = c + (runL noEnd s + 1) by omega]
      cases hs : s.drop (runL noEnd s) <;> simp [blanksL]

theorem blanksL_c (s : List UInt8) (l c : Nat) (h : s.getD 0 0 = 35) : blanksL false s l c = blanksL false (s.drop (runL noEnd s)) l (c + runL noEnd s) ∧ 1 ≤ runL noEnd s := by
  cases s with
  | nil => simp at h
  | cons x s =>
    simp at h
    subst h
    have h1 : runL noEnd (35 :: s) = runL noEnd s + 1 := rfl
    rw [h1]
    refine ⟨?_, by omega⟩
    show blanksL true s l (c + 1) = _
    rw [blanksL_true]
    simp only [List.drop_succ_cons]
    rw [show c + 1 + runL noEnd s = c + (runL noEnd s + 1) by omega]

theorem blanksL_step (s : List UInt8) (l c : Nat) (h : 0 < s.length) :
    blanksL false s l c = bif decide (s.getD 0 0 = 10) then blanksL false (s.drop 1) (l + 1) 1 else bif decide (s.getD 0 0 = 32) || decide (s.getD 0 0 = 9) then blanksL false (s.drop 1) l (c + 1)
      else bif decide (s.getD 0 0 = 35) then blanksL true (s.drop 1) l (c + 1) else (s, l, c) := by
  cases s with
  | nil => simp at h
  | cons x s => rfl

theorem d8 (x : UInt8) (n : Int) (y : UInt8) (h : (y.toNat : Int) = n) : decide ((x.toNat : Int) = n) = decide (x = y) := by
  rw [Bool.eq_iff_iff]
  simp only [decide_eq_true_eq]
  constructor
  · intro e; apply UInt8.toNat_inj.1; omega
  · intro e; subst e; exact h

theorem blanks_spec (s : List UInt8) (l c : Nat) (hl : l + s.length < 4611686018427387904) (hc : c + s.length < 4611686018427387904) :
    Call Tryd.prog 27 [.p (some (0, 0))] (fun r h => h = [rdO (blanksL false s l c).1 (blanksL false s l c).2.1 (blanksL false s l c).2.2] ∧ r = .ret (.tu [])) [rdO s l c] := by
  refine Call.of_body (E := E) Tryd.func27 Tryd.ntmps27 (rs := []) Tryd.results27 rfl (by decide) rfl ?_
  conv => whnf
  generalize hR : blanksL false s l c = R
  refine (Loop.ind (fun x : List UInt8 × Nat × Nat => blanksL false x.1 x.2.1 x.2.2 = R ∧ x.2.1 + x.1.length < 4611686018427387904 ∧ x.2.2 + x.1.length < 4611686018427387904) (fun _ => [(0, .p (some (0, 0)))])
    (fun x => [rdO x.1 x.2.1 x.2.2]) (fun x => x.1.length) ?_ (s, l, c) ⟨hR, hl, hc⟩).to [0] rfl rfl rfl ⟨rfl, trivial⟩
  rintro ⟨s, l, c⟩ ⟨i1, i2, i3⟩ ih
  replace i2 : l + s.length < 4611686018427387904 := i2
  replace i3 : c + s.length < 4611686018427387904 := i3
  conv => whnf
  by_cases h1 : 0 < s.length
  · have hstep := blanksL_step s l c h1
    rw [decide_eq_true (show (0 : Int) < (s.length : Nat) by omega)]
    conv => whnf
    refine ⟨by decide, show (0 : Int) < (s.length : Nat) by omega, ?_⟩
    generalize hx : s.getD (Int.toNat 0) 0 = x
    have hx' : s.getD 0 0 = x := hx
    rw [hx'] at hstep
    conv => whnf
    rw [d8 x 32 32 rfl]
    have sk := skip_spec s l c 1 (by omega) (by omega)
    cases q1 : decide (x = 32) with
    | true =>
      have : x = 32 := of_decide_eq_true q1
      subst this
      conv => whnf
      refine sk.mono ?_
      rintro r h' ⟨rfl, rfl⟩
      conv => whnf
      refine (ih (s.drop 1, l, c + 1) ⟨?_, ?_, ?_⟩ ?_).to [0] rfl rfl rfl ⟨rfl, trivial⟩
      · exact hstep.symm.trans i1
      all_goals (simp only [List.length_drop]; omega)
    | false =>
    conv => whnf
    rw [d8 x 9 9 rfl]
    cases q2 : decide (x = 9) with
    | true =>
      have : x = 9 := of_decide_eq_true q2
      subst this
      conv => whnf
      refine sk.mono ?_
      rintro r h' ⟨rfl, rfl⟩
      conv => whnf
      refine (ih (s.drop 1, l, c + 1) ⟨?_, ?_, ?_⟩ ?_).to [0] rfl rfl rfl ⟨rfl, trivial⟩
      · exact hstep.symm.trans i1
      all_goals (simp only [List.length_drop]; omega)
    | false =>
    conv => whnf
    rw [d8 x 10 10 rfl]
    cases q3 : decide (x = 10) with
    | true =>
      have : x = 10 := of_decide_eq_true q3
      subst this
      conv => whnf
      refine Rest.drawW (E := E) [15, 18, 21] mixed (by decide +kernel) ?_
      conv => whnf
      refine ⟨by decide, show (1 : Int) ≤ (s.length : Nat) by omega, Int.le_refl _, ?_⟩
      conv => whnf
      refine (ih (s.drop 1, l + 1, 1) ⟨?_, ?_, ?_⟩ ?_).to [0] rfl ?_ rfl ⟨rfl, trivial⟩
      · exact hstep.symm.trans i1
      rotate_right
      · have e : IntKind.i64.wrap ((l : Int) + 1) = l + 1 := wrap64_id (by omega) (by omega)
        show [AObj.mk _ [_, .i .i64 (IntKind.i64.wrap ((l : Int) + 1)), _] .rw] = _
        rw [e]
        simp [rdO, List.take_of_length_le, AV.ren]
      all_goals (simp only [List.length_drop]; omega)
    | false =>
    conv => whnf
    rw [d8 x 35 35 rfl]
    cases q4 : decide (x = 35) with
    | true =>
      have : x = 35 := of_decide_eq_true q4
      subst this
      conv => whnf
      refine (run_spec s (by omega) 47 noEnd fun c => noEnd_spec c).at [] rfl rfl rfl ?_
      rintro r h' ⟨rfl, rfl⟩
      conv => whnf
      have hle := runL_le noEnd s
      obtain ⟨k1, k2⟩ := blanksL_c s l c hx'
      refine (skip_spec s l c (runL noEnd s) hle (by omega)).mono ?_
      rintro r h' ⟨rfl, rfl⟩
      conv => whnf
      refine (ih (s.drop (runL noEnd s), l, c + runL noEnd s) ⟨?_, ?_, ?_⟩ ?_).to [0] rfl rfl rfl ⟨rfl, trivial⟩
      · exact k1.symm.trans i1
      all_goals (simp only [List.length_drop]; omega)
    | false =>
      conv => whnf
      rw [q1, q2, q3, q4] at hstep
      simp only [Bool.or_self, cond_false] at hstep
      rw [hstep] at i1
      subst i1
      exact .here ⟨rfl, rfl⟩
  · have : s = [] := List.eq_nil_of_length_eq_zero (by omega)
    subst this
    conv => whnf
    have : ([], l, c) = R := i1
    subst this
    exact .here ⟨rfl, rfl⟩

end Go.S2.Tryd
