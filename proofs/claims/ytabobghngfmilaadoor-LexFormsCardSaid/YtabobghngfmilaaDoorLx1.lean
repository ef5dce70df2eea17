/- Package lex: bytes of a kind, runs of them, words. -/
import Derived.Test.YtabobghngfmilaaDoorLxTab
import Derived.Test.YtabobghngfmilaaDoorSimN
import Derived.Test.YtabobghngfmilaaDoorLxPure
set_option linter.unusedSimpArgs false
namespace Go.Sim.Tryd
open Go.Proofs Go.Lx

theorem letter_spec (c : UInt8) (h : AHeap) : Call Tryd.prog 24 [.i .u8 c.toNat] (fun r h' => h' = h ∧ r = .ret (.b (letterB c))) h := by
  refine Call.of_body (E := E) Tryd.func24 Tryd.ntmps24 (rs := [_]) Tryd.results24 rfl (by decide) rfl ?_
  unfold letterB
  by_cases h1 : 97 ≤ (c.toNat : Int)
  · conv => whnf
    rw [decide_eq_true h1]
    conv => whnf
    exact ⟨rfl, rfl⟩
  · conv => whnf
    rw [decide_eq_false h1]
    conv => whnf
    exact ⟨rfl, rfl⟩

theorem digit_spec (c : UInt8) (h : AHeap) : Call Tryd.prog 45 [.i .u8 c.toNat] (fun r h' => h' = h ∧ r = .ret (.b (digitB c))) h := by
  refine Call.of_body (E := E) Tryd.func45 Tryd.ntmps45 (rs := [_]) Tryd.results45 rfl (by decide) rfl ?_
  unfold digitB
  by_cases h1 : 48 ≤ (c.toNat : Int)
  · conv => whnf
    rw [decide_eq_true h1]
    conv => whnf
    exact ⟨rfl, rfl⟩
  · conv => whnf
    rw [decide_eq_false h1]
    conv => whnf
    exact ⟨rfl, rfl⟩

theorem u8_eq (c : UInt8) (n : Nat) (hn : n < 256) : decide ((c.toNat : Int) = n) = decide (c = UInt8.ofNat n) := by
  rw [Bool.eq_iff_iff]
  simp only [decide_eq_true_eq]
  constructor
  · intro h; apply UInt8.toNat_inj.1; simp; omega
  · intro h; subst h; simp; omega

theorem inner_spec (c : UInt8) (h : AHeap) : Call Tryd.prog 26 [.i .u8 c.toNat] (fun r h' => h' = h ∧ r = .ret (.b (innerB c))) h := by
  refine Call.of_body (E := E) Tryd.func26 Tryd.ntmps26 (rs := [_]) Tryd.results26 rfl (by decide) rfl ?_
  conv => whnf
  refine (letter_spec c h).mono ?_
  rintro r h' ⟨rfl, rfl⟩
  unfold innerB
  cases h1 : letterB c with
  | true =>
    conv => whnf
    exact ⟨rfl, rfl⟩
  | false =>
    conv => whnf
    refine (digit_spec c h').mono ?_
    rintro r h2 ⟨rfl, rfl⟩
    cases h3 : digitB c with
    | true =>
      conv => whnf
      exact ⟨rfl, rfl⟩
    | false =>
      conv => whnf
      exact ⟨rfl, by simp only [Bool.false_or]; rw [show (95 : UInt8) = UInt8.ofNat 95 from rfl, ← u8_eq c 95 (by decide)]; rfl⟩

theorem run_spec (s : List UInt8) (hs : s.length < 9223372036854775807) (k : FuncId) (g : UInt8 → Bool) (h : AHeap)
    (hg : ∀ c : UInt8, Call Tryd.prog k [.i .u8 c.toNat] (fun r h' => h' = h ∧ r = .ret (.b (g c))) h) :
    Call Tryd.prog 25 [.s s, .fn (.func k) [] []] (fun r h' => h' = h ∧ r = .ret (.i .i64 (runL g s))) h := by
  refine Call.of_body (E := E) Tryd.func25 Tryd.ntmps25 (rs := [_]) Tryd.results25 rfl (by decide) rfl ?_
  conv => whnf
  refine Loop.ind (fun n : Nat => n ≤ s.length ∧ ∀ j, j < n → g (s.getD j 0) = true) (fun n => [(0, .s s), (1, .fn (.func k) [] []), (5, .i .i64 n)]) (fun _ => h) (fun n => s.length - n) ?_ (x := 0) ⟨Nat.zero_le _, fun j hj => by omega⟩ ⟨rfl, rfl, rfl, trivial⟩
  intro n base hI ih
  by_cases h1 : n < s.length
  · conv => whnf
    rw [decide_eq_true (show (n : Int) < s.length by omega)]
    conv => whnf
    refine ⟨by omega, ?_⟩
    conv => whnf
    refine ⟨by omega, ?_⟩
    conv => whnf
    refine (hg (s.getD n 0)).mono ?_
    rintro r h' ⟨rfl, rfl⟩
    cases hc : g (s.getD n 0) with
    | true =>
      conv => whnf
      refine ih (n + 1) _ ⟨by omega, fun j hj => ?_⟩ (by omega) ⟨rfl, rfl, ?_, trivial⟩
      · by_cases hjn : j = n
        · subst hjn; exact hc
        · exact hI.2 j (by omega)
      · show AV.i .i64 (IntKind.i64.wrap ((n : Int) + 1)) = _
        rw [wrap64_id (by omega) (by omega)]; simp
    | false =>
      conv => whnf
      refine ⟨rfl, ?_⟩
      rw [runL_of g s n hI.1 hI.2 fun _ => hc]
  · conv => whnf
    rw [decide_eq_false (show ¬ (n : Int) < s.length by omega)]
    conv => whnf
    refine ⟨rfl, ?_⟩
    rw [runL_of g s n hI.1 hI.2 fun hh => absurd hh h1]

theorem wordB_eq (s : List UInt8) (h : 1 ≤ s.length) : wordB s = (decide (s.length ≤ 16) && (letterB (s.getD 0 0) && decide (runL innerB s = s.length))) := by
  cases s with
  | nil => simp at h
  | cons c s => simp [wordB, Bool.and_assoc]

theorem word_spec (s : List UInt8) (hs : s.length < 9223372036854775807) (h : AHeap) : Call Tryd.prog 9 [.s s] (fun r h' => h' = h ∧ r = .ret (.b (wordB s))) h := by
  refine Call.of_body (E := E) Tryd.func9 Tryd.ntmps9 (rs := [_]) Tryd.results9 rfl (by decide) rfl ?_
  by_cases h0 : 1 ≤ s.length
  · conv => whnf
    rw [decide_eq_true (show (1 : Int) ≤ (s.length : Nat) by omega)]
    rw [wordB_eq s h0]
    by_cases h1 : s.length ≤ 16
    · rw [decide_eq_true h1]
      conv => whnf
      rw [decide_eq_true (show ((s.length : Nat) : Int) ≤ 16 by omega)]
      conv => whnf
      refine ⟨by omega, by omega, ?_⟩
      refine (letter_spec (s.getD 0 0) h).mono ?_
      rintro r h' ⟨rfl, rfl⟩
      cases h2 : letterB (s.getD 0 0) with
      | true =>
        conv => whnf
        refine (run_spec s hs 26 innerB h' (fun c => inner_spec c h')).mono ?_
        rintro r h2 ⟨rfl, rfl⟩
        conv => whnf
        refine ⟨rfl, ?_⟩
        simp only [Bool.true_and]
        congr 2
        rw [Bool.eq_iff_iff]
        simp only [decide_eq_true_eq]
        omega
      | false =>
        conv => whnf
        exact ⟨rfl, rfl⟩
    · rw [decide_eq_false h1]
      conv => whnf
      rw [decide_eq_false (show ¬ ((s.length : Nat) : Int) ≤ 16 by omega)]
      conv => whnf
      exact ⟨rfl, rfl⟩
  · have : s = [] := List.eq_nil_of_length_eq_zero (by omega)
    subst this
    conv => whnf
    exact ⟨rfl, rfl⟩
end Go.Sim.Tryd
