/- Chapter 4's law of names: the reference's words and keys; the law's walk. -/
import Derived.Test.YtabobghngfmilaaDoorLx7
set_option linter.unusedSimpArgs false
namespace Go.S2.Tryd
open Go.Proofs Go.Lx

theorem rletter_spec (c : UInt8) : Call Tryd.prog 33 [.i .u8 c.toNat] (fun r h => h = [] ∧ r = .ret (.b (letterB c))) [] := by
  refine Call.of_body (E := E) Tryd.func33 Tryd.ntmps33 (rs := [_]) Tryd.results33 rfl (by decide) rfl ?_
  unfold letterB
  by_cases h1 : 97 ≤ (c.toNat : Int)
  · conv => whnf
    rw [decide_eq_true h1]
    conv => whnf
    exact .here ⟨rfl, rfl⟩
  · conv => whnf
    rw [decide_eq_false h1]
    conv => whnf
    exact .here ⟨rfl, rfl⟩

theorem rdigit_spec (c : UInt8) : Call Tryd.prog 34 [.i .u8 c.toNat] (fun r h => h = [] ∧ r = .ret (.b (digitB c))) [] := by
  refine Call.of_body (E := E) Tryd.func34 Tryd.ntmps34 (rs := [_]) Tryd.results34 rfl (by decide) rfl ?_
  unfold digitB
  by_cases h1 : 48 ≤ (c.toNat : Int)
  · conv => whnf
    rw [decide_eq_true h1]
    conv => whnf
    exact .here ⟨rfl, rfl⟩
  · conv => whnf
    rw [decide_eq_false h1]
    conv => whnf
    exact .here ⟨rfl, rfl⟩

/-- The i-th byte may stand there. -/
def okW (s : List UInt8) (i : Nat) : Bool := letterB (s.getD i 0) || (!decide (i = 0) && (digitB (s.getD i 0) || decide (s.getD i 0 = 95)))

theorem wordB_ok (s : List UInt8) : wordB s = (decide (1 ≤ s.length) && decide (s.length ≤ 16) && decide (∀ i, i < s.length → okW s i = true)) := by
  cases s with
  | nil => rfl
  | cons c s =>
    rw [wordB_eq _ (by simp)]
    rw [Bool.eq_iff_iff]
    simp only [Bool.and_eq_true, decide_eq_true_eq]
    constructor
    · rintro ⟨h1, h2, h3⟩
      refine ⟨⟨by simp, h1⟩, fun i hi => ?_⟩
      have h4 := runL_at innerB (c :: s) i (by omega)
      unfold okW
      cases i with
      | zero => rw [h2]; rfl
      | succ i =>
        unfold innerB at h4
        simp only [Bool.or_eq_true] at h4 ⊢
        rcases h4 with (h4 | h4) | h4
        · exact .inl h4
        · right; rw [h4]; rfl
        · right; rw [h4, Bool.or_true]; rfl
    · rintro ⟨⟨_, h1⟩, h2⟩
      refine ⟨h1, ?_, ?_⟩
      · have := h2 0 (by simp)
        simpa [okW] using this
      · refine runL_of innerB _ _ (Nat.le_refl _) (fun j hj => ?_) (fun h => absurd h (Nat.lt_irrefl _))
        have := h2 j hj
        unfold okW at this
        unfold innerB
        simp only [Bool.or_eq_true, Bool.and_eq_true] at this ⊢
        rcases this with h | ⟨_, h | h⟩
        · exact .inl (.inl h)
        · exact .inl (.inr h)
        · exact .inr h

theorem rword_spec (s : List UInt8) (hs : s.length < 4611686018427387904) : Call Tryd.prog 14 [.s s] (fun r h => h = [] ∧ r = .ret (.b (wordB s))) [] := by
  refine Call.of_body (E := E) Tryd.func14 Tryd.ntmps14 (rs := [_]) Tryd.results14 rfl (by decide) rfl ?_
  rw [wordB_ok]
  conv => whnf
  refine (Loop.ind (fun i : Nat => i ≤ s.length ∧ ∀ j, j < i → okW s j = true) (fun i => [(0, .s s), (3, .i .i64 i)]) (fun _ => []) (fun i => s.length - i) ?_ 0 ⟨Nat.zero_le _, fun j hj => absurd hj (Nat.not_lt_zero _)⟩).to [] rfl rfl rfl ⟨rfl, rfl, trivial⟩
  rintro i ⟨i1, i2⟩ ih
  have hnext : AV.i .i64 (IntKind.i64.wrap ((i : Int) + 1)) = .i .i64 ((i + 1 : Nat) : Int) := by rw [wrap64_id (by omega) (by omega)]; simp
  by_cases h1 : i < s.length
  · have bad : okW s i = false → (decide (1 ≤ s.length) && decide (s.length ≤ 16) && decide (∀ i, i < s.length → okW s i = true)) = false := fun h => by
      rw [decide_eq_false (p := ∀ i, i < s.length → okW s i = true) (fun hh => by rw [hh i h1] at h; cases h)]; simp
    have good : okW s i = true → ∀ j, j < i + 1 → okW s j = true := fun h j hj => by
      by_cases hji : j = i
      · rw [hji]; exact h
      · exact i2 j (by omega)
    have ok : okW s i = (letterB (s.getD i 0) || (!decide (i = 0) && (digitB (s.getD i 0) || decide (s.getD i 0 = 95)))) := rfl
    conv => whnf
    rw [decide_eq_true (show (i : Int) < (s.length : Nat) by omega)]
    refine ⟨by omega, by omega, ?_⟩
    refine (rletter_spec (s.getD i 0)).mono ?_
    rintro r h' ⟨rfl, rfl⟩
    cases q1 : letterB (s.getD i 0) with
    | true =>
      rw [q1, Bool.true_or] at ok
      conv => whnf
      refine (ih (i + 1) ⟨by omega, good ok⟩ (by omega)).to [] rfl rfl rfl ⟨rfl, hnext, trivial⟩
    | false =>
      rw [q1, Bool.false_or] at ok
      conv => whnf
      by_cases q2 : i = 0
      · subst q2
        rw [decide_eq_true (show ((0 : Nat) : Int) = 0 from rfl)]
        conv => whnf
        rw [bad ok]
        exact .here ⟨rfl, rfl⟩
      · rw [decide_eq_false q2] at ok
        rw [decide_eq_false (show ¬ (i : Int) = 0 by omega)]
        conv => whnf
        refine ⟨by omega, by omega, ?_⟩
        refine (rdigit_spec (s.getD i 0)).mono ?_
        rintro r h' ⟨rfl, rfl⟩
        cases q3 : digitB (s.getD i 0) with
        | true =>
          rw [q3] at ok
          conv => whnf
          refine (ih (i + 1) ⟨by omega, good ok⟩ (by omega)).to [] rfl rfl rfl ⟨rfl, hnext, trivial⟩
        | false =>
          rw [q3] at ok
          conv => whnf
          refine ⟨by omega, by omega, ?_⟩
          rw [show decide (((s.getD (Int.toNat (i : Int)) 0).toNat : Int) = 95) = decide (s.getD i 0 = 95) from d8 _ 95 95 rfl]
          cases q4 : decide (s.getD i 0 = 95) with
          | true =>
            rw [q4] at ok
            conv => whnf
            refine (ih (i + 1) ⟨by omega, good ok⟩ (by omega)).to [] rfl rfl rfl ⟨rfl, hnext, trivial⟩
          | false =>
            rw [q4] at ok
            conv => whnf
            rw [bad ok]
            exact .here ⟨rfl, rfl⟩
  · have hi : i = s.length := by omega
    subst hi
    conv => whnf
    rw [decide_eq_false (show ¬ (s.length : Int) < (s.length : Nat) by omega)]
    rw [decide_eq_true (p := ∀ i, i < s.length → okW s i = true) i2, Bool.and_true]
    conv => whnf
    by_cases h2 : 1 ≤ s.length
    · rw [decide_eq_true h2, decide_eq_true (show (1 : Int) ≤ (s.length : Nat) by omega)]
      conv => whnf
      refine .here ⟨rfl, ?_⟩
      rw [Bool.true_and]
      congr 2
      rw [Bool.eq_iff_iff]; simp only [decide_eq_true_eq]; omega
    · rw [decide_eq_false h2, decide_eq_false (show ¬ (1 : Int) ≤ (s.length : Nat) by omega)]
      conv => whnf
      exact .here ⟨rfl, rfl⟩

set_option maxRecDepth 100000 in
theorem rkeys_spec : Call Tryd.prog 37 [] (fun r h => h = [] ∧ r = .ret (.im (enc strC (wordsL.take 30)) 30)) [] := by
  refine Call.of_body (E := E) Tryd.func37 Tryd.ntmps37 (rs := [_]) Tryd.results37 rfl (by decide) rfl ?_
  conv => whnf
  refine .frz [0] (.keep [] rfl ⟨rfl, ?_⟩)
  rfl

theorem keysL_eq : keysL = wordsL.take 30 := by decide +kernel

theorem idxS_ge (v : List UInt8) : ∀ (l : List (List UInt8)) (k : Nat), idxS v l k = -1 ∨ (k : Int) ≤ idxS v l k
  | [], k => .inl rfl
  | x :: l, k => by
    unfold idxS
    split
    · exact .inr (Int.le_refl _)
    · rcases idxS_ge v l (k + 1) with h | h
      · exact .inl h
      · exact .inr (by omega)

theorem idxS_mem (v : List UInt8) : ∀ (l : List (List UInt8)) (k : Nat), decide (0 ≤ idxS v l k) = decide (v ∈ l)
  | [], k => by simp [idxS]
  | x :: l, k => by
    unfold idxS
    split
    · rename_i h; simp [h]
    · rename_i h
      rw [idxS_mem v l (k + 1)]
      simp [h]

theorem rkey_spec (s : List UInt8) : Call Tryd.prog 16 [.s s] (fun r h => h = [] ∧ r = .ret (.b (decide (s ∈ keysL)))) [] := by
  refine Call.of_body (E := E) Tryd.func16 Tryd.ntmps16 (rs := [_]) Tryd.results16 rfl (by decide) rfl ?_
  conv => whnf
  refine rkeys_spec.mono ?_
  rintro r h' ⟨rfl, rfl⟩
  rw [← keysL_eq]
  have hl := keysL_len
  generalize keysL = l at hl
  generalize hR : decide (s ∈ l) = R
  conv => whnf
  refine (Loop.ind (fun i : Nat => i ≤ 30 ∧ decide (s ∈ l.drop i) = R) (fun i => [(0, .s s), (2, .b false), (5, .im (enc strC l) 30), (6, .i .i64 30), (7, .i .i64 i)]) (fun _ => []) (fun i => 30 - i) ?_ 0 ⟨by omega, hR⟩).to [] rfl rfl rfl ⟨rfl, rfl, rfl, rfl, rfl, trivial⟩
  rintro i ⟨i1, i2⟩ ih
  have hnext : AV.i .i64 (IntKind.i64.wrap ((i : Int) + 1)) = .i .i64 ((i + 1 : Nat) : Int) := by rw [wrap64_id (by omega) (by omega)]; simp
  by_cases h1 : i < 30
  · conv => whnf
    rw [decide_eq_true (show (i : Int) < 30 by omega)]
    rw [List.drop_eq_getElem_cons (by omega)] at i2
    generalize hx : l[i]'(by omega) = x at i2
    conv => whnf
    refine ⟨by rw [enc_len strC_len, hl]; rfl, by omega, show (i : Int) < ((30 : Nat) : Int) by omega, _, enc_elC strC_len (x := x) (by rw [List.getElem?_eq_getElem (by omega), hx]), ?_⟩
    conv => whnf
    by_cases h2 : s = x
    · rw [decide_eq_true h2]
      rw [show decide (s ∈ x :: l.drop (i + 1)) = true from decide_eq_true (by rw [h2]; exact List.mem_cons_self ..)] at i2
      conv => whnf
      exact .here ⟨rfl, by rw [← i2]⟩
    · rw [decide_eq_false h2]
      have i3 : decide (s ∈ l.drop (i + 1)) = R := by
        rw [← i2, Bool.eq_iff_iff]; simp only [decide_eq_true_eq, List.mem_cons]
        exact ⟨.inr, fun h => h.resolve_left h2⟩
      conv => whnf
      refine (ih (i + 1) ⟨by omega, i3⟩ (by omega)).to [] rfl rfl rfl ⟨rfl, rfl, rfl, rfl, hnext, trivial⟩
  · have hi : i = 30 := by omega
    subst hi
    rw [List.drop_of_length_le (by omega)] at i2
    conv => whnf
    exact .here ⟨rfl, by rw [← i2]; rfl⟩

theorem eqB_tk (t u : Tk) : eqB (tkC t) (tkC u) = decide (t = u) := by
  rw [Bool.eq_iff_iff]
  cases t; cases u
  simp only [tkC, eqB, Bool.and_true, Bool.and_eq_true, decide_eq_true_eq, Tk.mk.injEq]
  constructor
  · rintro ⟨h1, h2, h3, h4, h5⟩
    exact ⟨by omega, by omega, by omega, by omega, h5⟩
  · rintro ⟨h1, h2, h3, h4, h5⟩
    exact ⟨by omega, by omega, by omega, by omega, h5⟩

theorem sameT_spec (l m : List Tk) (hl : l.length < 4611686018427387904) (hm : m.length < 4611686018427387904) : Call Tryd.prog 29 [.im (enc tkC l) l.length, .im (enc tkC m) m.length] (fun r h => h = [] ∧ r = .ret (.b (decide (l = m)))) [] := by
  refine Call.of_body (E := E) Tryd.func29 Tryd.ntmps29 (rs := [_]) Tryd.results29 rfl (by decide) rfl ?_
  conv => whnf
  by_cases h0 : l.length = m.length
  · rw [decide_eq_true (show (l.length : Int) = (m.length : Nat) by omega)]
    conv => whnf
    refine (Loop.ind (fun i : Nat => i ≤ l.length ∧ ∀ j, j < i → l[j]? = m[j]?) (fun i => [(0, .im (enc tkC l) l.length), (1, .im (enc tkC m) m.length), (5, .i .i64 i)]) (fun _ => []) (fun i => l.length - i) ?_ 0 ⟨Nat.zero_le _, fun j hj => absurd hj (Nat.not_lt_zero _)⟩).to [] rfl rfl rfl ⟨rfl, rfl, rfl, trivial⟩
    rintro i ⟨i1, i2⟩ ih
    have hnext : AV.i .i64 (IntKind.i64.wrap ((i : Int) + 1)) = .i .i64 ((i + 1 : Nat) : Int) := by rw [wrap64_id (by omega) (by omega)]; simp
    by_cases h1 : i < l.length
    · conv => whnf
      rw [decide_eq_true (show (i : Int) < (l.length : Nat) by omega)]
      conv => whnf
      have ht : l[i]? = some l[i] := List.getElem?_eq_getElem h1
      have hu : m[i]? = some (m[i]'(by omega)) := List.getElem?_eq_getElem (by omega)
      generalize l[i] = t at ht
      generalize (m[i]'(by omega)) = u at hu
      refine Rest.drawW (E := E) [] mixed (by decide +kernel) ?_
      conv => whnf
      refine ⟨enc_len tkC_len l, by omega, by omega, _, enc_elC tkC_len ht, ?_⟩
      conv => whnf
      refine ⟨enc_len tkC_len m, by omega, by omega, _, enc_elC tkC_len hu, ?_⟩
      conv => whnf
      refine ⟨_, fun g => OpV.eqStructE (E := E) [.int .i64, .int .i64, .int .i64, .int .i64, .str] Tryd.underlying52 Tryd.stoodInHeld52 Tryd.eqGuardType52 (by decide +kernel) rfl rfl rfl rfl rfl (.inr ⟨rfl, rfl⟩), ?_⟩
      conv => whnf
      rw [show eqB [AV.i .i64 t.kind, .i .i64 t.n, .i .i64 t.line, .i .i64 t.col, .s t.text] [AV.i .i64 u.kind, .i .i64 u.n, .i .i64 u.line, .i .i64 u.col, .s u.text] = decide (t = u) from eqB_tk t u]
      by_cases htu : t = u
      · rw [decide_eq_true htu]
        conv => whnf
        refine (ih (i + 1) ⟨by omega, fun j hj => ?_⟩ (by omega)).to [] rfl rfl rfl ⟨rfl, rfl, hnext, trivial⟩
        by_cases hji : j = i
        · rw [hji, ht, hu, htu]
        · exact i2 j (by omega)
      · rw [decide_eq_false htu]
        rw [decide_eq_false (show ¬ l = m from fun e => htu (by rw [e, hu] at ht; exact (Option.some.inj ht).symm))]
        conv => whnf
        exact .here ⟨rfl, rfl⟩
    · have hi : i = l.length := by omega
      subst hi
      rw [decide_eq_true (show l = m from List.ext_getElem? fun j => by
        by_cases hj : j < l.length
        · exact i2 j hj
        · rw [List.getElem?_eq_none (by omega), List.getElem?_eq_none (by omega)])]
      conv => whnf
      rw [decide_eq_false (show ¬ (l.length : Int) < (l.length : Nat) by omega)]
      conv => whnf
      exact .here ⟨rfl, rfl⟩
  · rw [decide_eq_false (show ¬ (l.length : Int) = (m.length : Nat) by omega)]
    rw [decide_eq_false (show ¬ l = m from fun e => h0 (by rw [e]))]
    conv => whnf
    exact .here ⟨rfl, rfl⟩

def exToks : List Tk := [⟨1, 0, 1, 1, [97, 49]⟩, ⟨2, 12, 1, 4, [49, 50]⟩, ⟨4, 0, 1, 6, []⟩]
theorem lexL_ex : lexL [97, 49, 32, 49, 50] = (exToks, 0, 0, 0) := by decide

theorem wakes4_spec : Call Tryd.prog 11 [] (fun r h => h = [] ∧ r = .ret (.b true)) [] := by
  refine Call.of_body (E := E) Tryd.func11 Tryd.ntmps11 (rs := [_]) Tryd.results11 rfl (by decide) rfl ?_
  conv => whnf
  have ht := tokens_spec [97, 49, 32, 49, 50] (by decide)
  rw [lexL_ex] at ht
  refine ht.mono ?_
  rintro r h' ⟨rfl, rfl⟩
  conv => whnf
  refine .frz [0] ?_
  refine (sameT_spec exToks exToks (by decide) (by decide)).at [] rfl rfl rfl ?_
  rintro r h' ⟨rfl, rfl⟩
  conv => whnf
  exact .keep [] rfl ⟨rfl, rfl⟩

theorem key_word (s : List UInt8) (h : s ∈ keysL) : wordB s = true := by
  have : ∀ w ∈ keysL, wordB w = true := by decide +kernel
  exact this s h

theorem keyB_mem (s : List UInt8) : keyB s = decide (s ∈ keysL) := by
  unfold keyB
  rw [idxS_mem]
  by_cases h : s ∈ keysL
  · rw [decide_eq_true h, key_word s h]; rfl
  · rw [decide_eq_false h, Bool.and_false]

theorem names_spec (s : List UInt8) (picks : List Int) (hs : s.length < 4611686018427387904) (hp : picks.length < 17592186044416) : Call Tryd.prog 4 [.s s, .im (enc intC picks) picks.length] (fun r h => r = .ret (.b true)) [] := by
  refine Call.of_body (E := E) Tryd.func4 Tryd.ntmps4 (rs := [_]) Tryd.results4 rfl (by decide) rfl ?_
  conv => whnf
  refine (cutI_spec picks 2 hp).mono ?_
  rintro r h' ⟨rfl, rfl⟩
  conv => whnf
  refine (ptext_spec [] (picks.take 2) (by simp; omega)).mono ?_
  rintro r h' ⟨rfl, t, ht, rfl⟩
  conv => whnf
  have w1 := word_spec
  refine (Loop.ind (fun i : Nat => i ≤ 2) (fun i => [(11, .sl (some (0, 0)) 2 1 false), (12, .i .i64 2), (13, .i .i64 i)]) (fun _ => [⟨9, [.s s, .s t], .rw⟩]) (fun i => 2 - i) ?_ 0 (by decide)).to [0] rfl rfl rfl ⟨rfl, rfl, rfl, trivial⟩
  intro i hi ih
  replace ht : t.length < 4611686018427387904 := by omega
  rcases i with _ | _ | _ | i
  rotate_left 2
  · conv => whnf
    refine wakes4_spec.at [] rfl rfl rfl ?_
    rintro r h' ⟨rfl, rfl⟩
    conv => whnf
    exact .keep [] rfl rfl
  · omega
  · generalize s = x at hs ih ⊢
    revert hs
    intro hx
    obtain ⟨W, K, hW, hK, hKW⟩ : ∃ W K, wordB x = W ∧ keyB x = K ∧ (K = true → W = true) := ⟨_, _, rfl, rfl, fun h => by rw [keyB_mem] at h; exact key_word x (of_decide_eq_true h)⟩
    have c1 := word_spec x (by omega)
    have c2 := rword_spec x hx
    have c3 := key_spec x (by omega)
    have c4 := rkey_spec x
    have c5 := name_spec x (by omega)
    rw [← keyB_mem] at c4
    unfold nameB at c5
    rw [hW] at c1 c2
    rw [hK] at c3 c4
    rw [hW, hK] at c5
    clear hW hK
    have nx : ∀ R : AE → AHeap → Prop, True := fun _ => trivial
    conv => whnf
    refine ⟨by decide, by decide, ?_⟩
    cases W <;> cases K
    rotate_left
    · cases hKW rfl
    all_goals
      conv => whnf
      repeat' first
        | refine c1.at [] rfl rfl rfl ?_; rintro r h' ⟨rfl, rfl⟩; conv => whnf
        | refine c2.at [] rfl rfl rfl ?_; rintro r h' ⟨rfl, rfl⟩; conv => whnf
        | refine c3.at [] rfl rfl rfl ?_; rintro r h' ⟨rfl, rfl⟩; conv => whnf
        | refine c4.at [] rfl rfl rfl ?_; rintro r h' ⟨rfl, rfl⟩; conv => whnf
        | refine c5.at [] rfl rfl rfl ?_; rintro r h' ⟨rfl, rfl⟩; conv => whnf
      refine (ih 1 (by omega) (by omega)).to [0] rfl rfl rfl ⟨rfl, rfl, rfl, trivial⟩
  · generalize t = x at ht ih ⊢
    revert ht
    intro hx
    obtain ⟨W, K, hW, hK, hKW⟩ : ∃ W K, wordB x = W ∧ keyB x = K ∧ (K = true → W = true) := ⟨_, _, rfl, rfl, fun h => by rw [keyB_mem] at h; exact key_word x (of_decide_eq_true h)⟩
    have c1 := word_spec x (by omega)
    have c2 := rword_spec x hx
    have c3 := key_spec x (by omega)
    have c4 := rkey_spec x
    have c5 := name_spec x (by omega)
    rw [← keyB_mem] at c4
    unfold nameB at c5
    rw [hW] at c1 c2
    rw [hK] at c3 c4
    rw [hW, hK] at c5
    clear hW hK
    have nx : ∀ R : AE → AHeap → Prop, True := fun _ => trivial
    conv => whnf
    refine ⟨by decide, by decide, ?_⟩
    cases W <;> cases K
    rotate_left
    · cases hKW rfl
    all_goals
      conv => whnf
      repeat' first
        | refine c1.at [] rfl rfl rfl ?_; rintro r h' ⟨rfl, rfl⟩; conv => whnf
        | refine c2.at [] rfl rfl rfl ?_; rintro r h' ⟨rfl, rfl⟩; conv => whnf
        | refine c3.at [] rfl rfl rfl ?_; rintro r h' ⟨rfl, rfl⟩; conv => whnf
        | refine c4.at [] rfl rfl rfl ?_; rintro r h' ⟨rfl, rfl⟩; conv => whnf
        | refine c5.at [] rfl rfl rfl ?_; rintro r h' ⟨rfl, rfl⟩; conv => whnf
      refine (ih 2 (by omega) (by omega)).to [0] rfl rfl rfl ⟨rfl, rfl, rfl, trivial⟩

end Go.S2.Tryd
