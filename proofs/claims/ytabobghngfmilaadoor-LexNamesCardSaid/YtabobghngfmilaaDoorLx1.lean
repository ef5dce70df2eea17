/- Package lex: bytes of a kind, runs of them, words. -/
import Derived.Test.YtabobghngfmilaaDoorTab
import Derived.Test.YtabobghngfmilaaDoorS2O
import Derived.Test.YtabobghngfmilaaDoorLxP
set_option linter.unusedSimpArgs false
namespace Go.S2.Tryd
open Go.Proofs Go.Lx

theorem letter_spec (c : UInt8) : Call Tryd.prog 24 [.i .u8 c.toNat] (fun r h => h = [] ∧ r = .ret (.b (letterB c))) [] := by
  refine Call.of_body (E := E) Tryd.func24 Tryd.ntmps24 (rs := [_]) Tryd.results24 rfl (by decide) rfl ?_
  unfold letterB
  by_cases h1 : 97 ≤ (c.toNat : Int)
  · conv => whnf
    rw [decide_eq_true h1]
    conv => whnf
    exact .here ⟨rfl, rfl⟩
  · conv => whnf
    rw [decide_eq_false h1]
    conv => whnf
    exact .here ⟨rfl, rfl⟩

theorem digit_spec (c : UInt8) : Call Tryd.prog 45 [.i .u8 c.toNat] (fun r h => h = [] ∧ r = .ret (.b (digitB c))) [] := by
  refine Call.of_body (E := E) Tryd.func45 Tryd.ntmps45 (rs := [_]) Tryd.results45 rfl (by decide) rfl ?_
  unfold digitB
  by_cases h1 : 48 ≤ (c.toNat : Int)
  · conv => whnf
    rw [decide_eq_true h1]
    conv => whnf
    exact .here ⟨rfl, rfl⟩
  · conv => whnf
    rw [decide_eq_false h1]
    conv => whnf
    exact .here ⟨rfl, rfl⟩

theorem u8_eq (c : UInt8) (n : Nat) (hn : n < 256) : decide ((c.toNat : Int) = n) = decide (c = UInt8.ofNat n) := by
  rw [Bool.eq_iff_iff]
  simp only [decide_eq_true_eq]
  constructor
  · intro h; apply UInt8.toNat_inj.1; simp; omega
  · intro h; subst h; simp; omega

theorem inner_spec (c : UInt8) : Call Tryd.prog 26 [.i .u8 c.toNat] (fun r h => h = [] ∧ r = .ret (.b (innerB c))) [] := by
  refine Call.of_body (E := E) Tryd.func26 Tryd.ntmps26 (rs := [_]) Tryd.results26 rfl (by decide) rfl ?_
  conv => whnf
  refine (letter_spec c).mono ?_
  rintro r h' ⟨rfl, rfl⟩
  unfold innerB
  cases h1 : letterB c with
  | true =>
    conv => whnf
    exact .here ⟨rfl, rfl⟩
  | false =>
    conv => whnf
    refine (digit_spec c).mono ?_
    rintro r h2 ⟨rfl, rfl⟩
    cases h3 : digitB c with
    | true =>
      conv => whnf
      exact .here ⟨rfl, rfl⟩
    | false =>
      conv => whnf
      refine .here ⟨rfl, ?_⟩
      simp only [Bool.false_or]; rw [show (95 : UInt8) = UInt8.ofNat 95 from rfl, ← u8_eq c 95 (by decide)]; rfl

theorem runL_of' (g : UInt8 → Bool) (s : List UInt8) (n : Nat) (hn : n ≤ s.length) (h1 : ∀ j, j < n → g (s.getD j 0) = true) (h2 : n < s.length → g (s.getD n 0) = false) : runL g s = n := runL_of g s n hn h1 h2

theorem run_spec (s : List UInt8) (hs : s.length < 9223372036854775807) (k : FuncId) (g : UInt8 → Bool)
    (hg : ∀ c : UInt8, Call Tryd.prog k [.i .u8 c.toNat] (fun r h => h = [] ∧ r = .ret (.b (g c))) []) :
    Call Tryd.prog 25 [.s s, .fn (.func k) [] []] (fun r h => h = [] ∧ r = .ret (.i .i64 (runL g s))) [] := by
  refine Call.of_body (E := E) Tryd.func25 Tryd.ntmps25 (rs := [_]) Tryd.results25 rfl (by decide) rfl ?_
  conv => whnf
  refine (Loop.ind (fun n : Nat => n ≤ s.length ∧ ∀ j, j < n → g (s.getD j 0) = true) (fun n => [(0, .s s), (1, .fn (.func k) [] []), (5, .i .i64 n)]) (fun _ => []) (fun n => s.length - n) ?_ 0 ⟨Nat.zero_le _, fun j hj => by omega⟩).to [] rfl rfl rfl ⟨rfl, rfl, rfl, trivial⟩
  intro n hI ih
  by_cases h1 : n < s.length
  · conv => whnf
    rw [decide_eq_true (show (n : Int) < s.length by omega)]
    conv => whnf
    refine ⟨by omega, ?_⟩
    conv => whnf
    refine ⟨by omega, ?_⟩
    conv => whnf
    refine (hg (s.getD n 0)).mono ?_
    rintro r h' ⟨rfl, rfl⟩
    cases hc : g (s.getD n 0) with
    | true =>
      conv => whnf
      refine (ih (n + 1) ⟨by omega, fun j hj => ?_⟩ (by omega)).to [] rfl rfl rfl ⟨rfl, rfl, ?_, trivial⟩
      · by_cases hjn : j = n
        · subst hjn; exact hc
        · exact hI.2 j (by omega)
      · show AV.i .i64 (IntKind.i64.wrap ((n : Int) + 1)) = _
        rw [wrap64_id (by omega) (by omega)]; simp
    | false =>
      conv => whnf
      refine .here ⟨rfl, ?_⟩
      rw [runL_of g s n hI.1 hI.2 fun _ => hc]
  · conv => whnf
    rw [decide_eq_false (show ¬ (n : Int) < s.length by omega)]
    conv => whnf
    refine .here ⟨rfl, ?_⟩
    rw [runL_of g s n hI.1 hI.2 fun hh => absurd hh h1]

end Go.S2.Tryd
