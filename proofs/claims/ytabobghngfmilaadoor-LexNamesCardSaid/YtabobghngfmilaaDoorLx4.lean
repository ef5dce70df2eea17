/- Package lex: the next token. -/
import Derived.Test.YtabobghngfmilaaDoorLx3
import Derived.Test.YtabobghngfmilaaDoorS2V
set_option linter.unusedSimpArgs false
namespace Go.S2.Tryd
open Go.Proofs Go.Lx

/-- A token's cells. -/
def tkC (t : Tk) : List AV := [.i .i64 t.kind, .i .i64 t.n, .i .i64 t.line, .i .i64 t.col, .s t.text]
def tkV (t : Tk) : AV := .ag (tkC t)

theorem tokenL_pos (s : List UInt8) (l c : Nat) (h : 0 < s.length) (x : UInt8) (hx : s.getD 0 0 = x) : tokenL s l c =
    bif letterB x then (bif decide (16 < runL innerB s) then none else some (⟨1, 0, l, c, s.take (runL innerB s)⟩, runL innerB s))
    else bif digitB x then (bif decide (9 < runL digitB s) || (decide (x = 48) && decide (1 < runL digitB s)) then none else some (⟨2, valL (s.take (runL digitB s)) 0, l, c, s.take (runL digitB s)⟩, runL digitB s))
    else bif decide (0 ≤ idxL signsL x) then some (⟨3, 0, l, c, s.take 1⟩, 1) else none := by
  cases s with
  | nil => simp at h
  | cons y s =>
    simp at hx
    subst hx
    rfl

theorem runL_pos (g : UInt8 → Bool) (s : List UInt8) (h : 0 < s.length) (hg : g (s.getD 0 0) = true) : 0 < runL g s := by
  cases s with
  | nil => simp at h
  | cons y s => simp at hg; simp [runL, hg]


theorem token_spec (s : List UInt8) (l c : Nat) (hs : s.length < 4611686018427387904) (hc : c + s.length < 4611686018427387904) :
    Call Tryd.prog 28 [.p (some (0, 0))] (fun r h => match tokenL s l c with
      | some (t, n) => h = [rdO (s.drop n) l (c + n)] ∧ r = .ret (.tu [tkV t, .b true])
      | none => h = [rdO s l c] ∧ r = .ret (.tu [tkV ⟨0, 0, l, c, []⟩, .b false])) [rdO s l c] := by
  refine Call.of_body (E := E) Tryd.func28 Tryd.ntmps28 (rs := [_, _]) Tryd.results28 rfl (by decide) rfl ?_
  conv => whnf
  refine Rest.drawA (E := E) [9, 10] [9] [3, 7] mixed (by decide +kernel) ?_
  conv => whnf
  by_cases hs0 : s = []
  · subst hs0
    conv => whnf
    exact .keep [0] rfl ⟨rfl, rfl⟩
  · have hp : 0 < s.length := List.length_pos_iff.2 hs0
    rw [show decide (s = (ByteArray.mk #[]).data.toList) = false from decide_eq_false hs0]
    conv => whnf
    refine ⟨by decide, show (0 : Int) < (s.length : Nat) by omega, ?_⟩
    generalize hx : s.getD (Int.toNat 0) 0 = x
    have hx' : s.getD 0 0 = x := hx
    rw [tokenL_pos s l c hp x hx']
    refine (letter_spec x).at [] rfl rfl rfl ?_
    rintro r h' ⟨rfl, rfl⟩
    cases q1 : letterB x with
    | true =>
      conv => whnf
      refine (run_spec s (by omega) 26 innerB fun c => inner_spec c).at [] rfl rfl rfl ?_
      rintro r h' ⟨rfl, rfl⟩
      have hle := runL_le innerB s
      generalize runL innerB s = n at hle
      by_cases hn : 16 < n
      · rw [decide_eq_true hn]
        conv => whnf
        rw [decide_eq_true (show (16 : Int) < (n : Nat) by omega)]
        conv => whnf
        exact .keep [0] rfl ⟨rfl, rfl⟩
      · rw [decide_eq_false hn]
        conv => whnf
        rw [decide_eq_false (show ¬ (16 : Int) < (n : Nat) by omega)]
        conv => whnf
        refine ⟨by decide, by omega, by omega, ?_⟩
        refine (skip_spec s l c n hle (by omega)).at [0] rfl rfl rfl ?_
        rintro r h' ⟨rfl, rfl⟩
        conv => whnf
        exact .keep [0] rfl ⟨rfl, rfl⟩
    | false =>
      conv => whnf
      refine (digit_spec x).at [] rfl rfl rfl ?_
      rintro r h' ⟨rfl, rfl⟩
      cases q2 : digitB x with
      | true =>
        conv => whnf
        refine (run_spec s (by omega) 45 digitB fun c => digit_spec c).at [] rfl rfl rfl ?_
        rintro r h' ⟨rfl, rfl⟩
        have hle := runL_le digitB s
        have hat := runL_at digitB s
        have hpos := runL_pos digitB s hp (by rw [hx']; exact q2)
        generalize runL digitB s = n at hle hat hpos
        have etk : (s.drop (Int.toNat 0)).take ((n : Int).toNat - Int.toNat 0) = s.take n := by simp
        conv => whnf
        by_cases hn : 9 < n
        · rw [decide_eq_true (show (9 : Int) < (n : Nat) by omega)]
          rw [decide_eq_true hn]
          conv => whnf
          exact .keep [0] rfl ⟨rfl, rfl⟩
        · rw [decide_eq_false (show ¬ (9 : Int) < (n : Nat) by omega), decide_eq_false hn]
          have at9 := atoi_spec (s.take n) (by simp; omega) (by simp; omega) (fun j hj => by
            simp only [List.length_take] at hj
            rw [List.getD_eq_getElem?_getD, List.getElem?_take, if_pos (by omega), ← List.getD_eq_getElem?_getD]
            exact hat j (by omega))
          conv => whnf
          rw [d8 x 48 48 rfl]
          cases q3 : decide (x = 48) && decide (1 < n) with
          | true =>
            simp only [Bool.and_eq_true] at q3
            rw [q3.1]
            conv => whnf
            rw [decide_eq_true (show (1 : Int) < (n : Nat) by have := of_decide_eq_true q3.2; omega)]
            conv => whnf
            exact .keep [0] rfl ⟨rfl, rfl⟩
          | false =>
            by_cases q4 : x = 48
            · rw [decide_eq_true q4] at q3 ⊢
              simp only [Bool.true_and, decide_eq_false_iff_not] at q3
              conv => whnf
              rw [decide_eq_false (show ¬ (1 : Int) < (n : Nat) by omega)]
              conv => whnf
              refine ⟨by decide, by omega, by omega, ?_⟩
              rw [etk]
              refine at9.at [] rfl rfl rfl ?_
              rintro r h' ⟨rfl, rfl⟩
              conv => whnf
              refine ⟨by decide, by omega, by omega, ?_⟩
              refine (skip_spec s l c n hle (by omega)).at [0] rfl rfl rfl ?_
              rintro r h' ⟨rfl, rfl⟩
              conv => whnf
              exact .keep [0] rfl ⟨rfl, rfl⟩
            · rw [decide_eq_false q4]
              conv => whnf
              refine ⟨by decide, by omega, by omega, ?_⟩
              rw [etk]
              refine at9.at [] rfl rfl rfl ?_
              rintro r h' ⟨rfl, rfl⟩
              conv => whnf
              refine ⟨by decide, by omega, by omega, ?_⟩
              refine (skip_spec s l c n hle (by omega)).at [0] rfl rfl rfl ?_
              rintro r h' ⟨rfl, rfl⟩
              conv => whnf
              exact .keep [0] rfl ⟨rfl, rfl⟩
      | false =>
        conv => whnf
        refine (indexByte_spec signsL x).at [] rfl rfl rfl ?_
        rintro r h' ⟨rfl, rfl⟩
        cases q3 : decide (0 ≤ idxL signsL x) with
        | true =>
          conv => whnf
          rw [q3]
          conv => whnf
          refine ⟨by decide, by decide, show (1 : Int) ≤ (s.length : Nat) by omega, ?_⟩
          refine (skip_spec s l c 1 (by omega) (by omega)).at [0] rfl rfl rfl ?_
          rintro r h' ⟨rfl, rfl⟩
          conv => whnf
          exact .keep [0] rfl ⟨rfl, rfl⟩
        | false =>
          conv => whnf
          rw [q3]
          conv => whnf
          exact .keep [0] rfl ⟨rfl, rfl⟩

end Go.S2.Tryd
