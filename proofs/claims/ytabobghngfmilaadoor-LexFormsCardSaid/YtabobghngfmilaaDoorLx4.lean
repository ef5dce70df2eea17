/- Package lex: the next token. -/
import Derived.Test.YtabobghngfmilaaDoorLx3
set_option linter.unusedSimpArgs false
namespace Go.Sim.Tryd
open Go.Proofs Go.Lx

theorem atoi48 (s : List UInt8) (hp : 0 < s.length) (hl : s.length ≤ 9) (hd : ∀ j, j < s.length → digitB (s.getD j 0) = true) (h : AHeap) :
    Call Tryd.prog 48 [.s s] (fun r h' => h' = h ∧ r = .ret (.tu [.i .i64 (valL s 0), .noif])) h := by
  refine Call.of_body (E := E) Tryd.func48 Tryd.ntmps48 (rs := [_, _]) Tryd.results48 rfl (by decide) rfl ?_
  conv => whnf
  refine (atoi57 s hp hl hd h).mono ?_
  rintro r h' ⟨rfl, rfl⟩
  conv => whnf
  exact ⟨rfl, rfl⟩

def tkV (t : Tk) : AV := .ag [.i .i64 t.kind, .i .i64 t.n, .i .i64 t.line, .i .i64 t.col, .s t.text]

theorem tokenL_pos (s : List UInt8) (l c : Nat) (h : 0 < s.length) (x : UInt8) (hx : s.getD 0 0 = x) : tokenL s l c =
    bif letterB x then (bif decide (16 < runL innerB s) then none else some (⟨1, 0, l, c, s.take (runL innerB s)⟩, runL innerB s))
    else bif digitB x then (bif decide (9 < runL digitB s) || (decide (x = 48) && decide (1 < runL digitB s)) then none else some (⟨2, valL (s.take (runL digitB s)) 0, l, c, s.take (runL digitB s)⟩, runL digitB s))
    else bif decide (0 ≤ idxL signsL x) then some (⟨3, 0, l, c, s.take 1⟩, 1) else none := by
  cases s with
  | nil => simp at h
  | cons y s =>
    simp at hx
    subst hx
    rfl

theorem runL_pos (g : UInt8 → Bool) (s : List UInt8) (h : 0 < s.length) (hg : g (s.getD 0 0) = true) : 0 < runL g s := by
  cases s with
  | nil => simp at h
  | cons y s => simp at hg; simp [runL, hg]

/-- A token in memory. -/
def tkO (k n l c : Nat) (s : List UInt8) : AObj := ⟨52, [.i .i64 k, .i .i64 n, .i .i64 l, .i .i64 c, .s s], .rw⟩

theorem token_spec (h : AHeap) (rid : Nat) (s : List UInt8) (l c : Nat) (hr : h[rid]? = some (rdO s l c)) (hs : s.length < 4611686018427387904) (hc : c + s.length < 4611686018427387904) :
    Call Tryd.prog 28 [.p (some (rid, 0))] (fun r h' => match tokenL s l c with
      | some (t, n) => h' = h.set rid (rdO (s.drop n) l (c + n)) ∧ r = .ret (.tu [tkV t, .b true])
      | none => h' = h ∧ r = .ret (.tu [tkV ⟨0, 0, l, c, []⟩, .b false])) h := by
  refine Call.keep (R := fun r h' => match tokenL s l c with
      | some (t, n) => (∃ e, h' = h.set rid (rdO (s.drop n) l (c + n)) ++ e) ∧ r = .ret (.tu [tkV t, .b true])
      | none => (∃ e, h' = h ++ e) ∧ r = .ret (.tu [tkV ⟨0, 0, l, c, []⟩, .b false])) ?_ ?_
  · refine Call.of_body (E := E) Tryd.func28 Tryd.ntmps28 (rs := [_, _]) Tryd.results28 rfl (by decide) rfl ?_
    conv => whnf
    refine Rest.drawA (E := E) [9, 10] [9] [3, 7] (by decide) (by decide +kernel) ?_
    have hlr := hlt hr
    conv => whnf
    refine ⟨by simp; omega, _, ald_leaf (E := E) rfl rfl (hget_l hr) rfl rfl, ?_⟩
    conv => whnf
    refine ⟨by simp; omega, _, ald_leaf (E := E) rfl rfl (hget_l hr) rfl rfl, ?_⟩
    conv => whnf
    refine ⟨Nat.le_refl _, ?_⟩
    conv => whnf
    have e0 : ∀ x y : AObj, h ++ [x] ++ [y] = hv h rid (rdO s l c) [x, y] := fun x y => by
      unfold hv; rw [hset_self hr, List.append_assoc]; rfl
    have e1 : ∀ x : AObj, (h ++ [x]).length = h.length + 1 := fun x => by simp
    rw [e0, e1]
    refine ⟨_, hv_new 1 rfl, rfl, nle rfl, ?_⟩
    conv => whnf
    rw [hv_set_new 1]
    have e2 : ∀ x y z : AObj, hv h rid x ([y, z].set 1 (tkO 0 0 l c [])) = hv h rid x [y, tkO 0 0 l c []] := fun x y z => rfl
    refine ⟨_, ald_leaf (E := E) rfl rfl (hv_old hr) rfl rfl, ?_⟩
    conv => whnf
    rw [show decide (s = (ByteArray.mk #[]).data.toList) = decide (s = []) from rfl]
    by_cases hs0 : s = []
    · subst hs0
      rw [decide_eq_true rfl]
      rw [show tokenL [] l c = some (⟨4, 0, l, c, []⟩, 0) from rfl]
      conv => whnf
      refine ⟨_, hv_new 1 rfl, rfl, nle rfl, ?_⟩
      conv => whnf
      rw [hv_set_new 1]
      refine ⟨_, ald_struct (E := E) rfl rfl (hv_new 1 rfl) rfl rfl rfl, ?_⟩
      conv => whnf
      refine ⟨_, hv_new 0 rfl, rfl, nle rfl, ?_⟩
      conv => whnf
      rw [hv_set_0]
      refine ⟨_, ald_struct (E := E) rfl rfl (hv_new 0 rfl) rfl rfl rfl, ?_⟩
      conv => whnf
      exact ⟨⟨_, rfl⟩, rfl⟩
    · have hp : 0 < s.length := List.length_pos_iff.2 hs0
      rw [decide_eq_false hs0]
      conv => whnf
      refine ⟨_, ald_leaf (E := E) rfl rfl (hv_old hr) rfl rfl, ?_⟩
      conv => whnf
      refine ⟨by decide, show (0 : Int) < (s.length : Nat) by omega, ?_⟩
      generalize hx : s.getD (Int.toNat 0) 0 = x
      have hx' : s.getD 0 0 = x := hx
      rw [tokenL_pos s l c hp x hx']
      conv => whnf
      refine (letter_spec x _).mono ?_
      rintro r h' ⟨rfl, rfl⟩
      cases q1 : letterB x with
      | true =>
        conv => whnf
        refine ⟨_, ald_leaf (E := E) rfl rfl (hv_old hr) rfl rfl, ?_⟩
        conv => whnf
        refine (run_spec s (by omega) 26 innerB _ fun c => inner_spec c _).mono ?_
        rintro r h' ⟨rfl, rfl⟩
        have hle := runL_le innerB s
        generalize runL innerB s = n at hle
        by_cases hn : 16 < n
        · rw [decide_eq_true hn]
          conv => whnf
          rw [decide_eq_true (show (16 : Int) < (n : Nat) by omega)]
          conv => whnf
          refine ⟨_, ald_struct (E := E) rfl rfl (hv_new 1 rfl) rfl rfl rfl, ?_⟩
          conv => whnf
          refine ⟨_, hv_new 0 rfl, rfl, nle rfl, ?_⟩
          conv => whnf
          rw [hv_set_0]
          refine ⟨_, ald_struct (E := E) rfl rfl (hv_new 0 rfl) rfl rfl rfl, ?_⟩
          conv => whnf
          exact ⟨⟨_, hv_self hr⟩, rfl⟩
        · rw [decide_eq_false hn]
          conv => whnf
          rw [decide_eq_false (show ¬ (16 : Int) < (n : Nat) by omega)]
          conv => whnf
          refine ⟨_, hv_new 1 rfl, rfl, nle rfl, ?_⟩
          conv => whnf
          rw [hv_set_new 1]
          refine ⟨_, ald_leaf (E := E) rfl rfl (hv_old hr) rfl rfl, ?_⟩
          conv => whnf
          refine ⟨_, hv_new 1 rfl, rfl, nle rfl, ?_⟩
          conv => whnf
          refine ⟨by decide, by omega, by omega, ?_⟩
          rw [hv_set_new 1]
          refine (skip_spec _ rid s l c n (hv_old hr) hle (by omega)).mono ?_
          rintro r h' ⟨rfl, rfl⟩
          rw [hv_set_old hr]
          conv => whnf
          refine ⟨_, ald_struct (E := E) rfl rfl (hv_new 1 rfl) rfl rfl rfl, ?_⟩
          conv => whnf
          refine ⟨_, hv_new 0 rfl, rfl, nle rfl, ?_⟩
          conv => whnf
          rw [hv_set_0]
          refine ⟨_, ald_struct (E := E) rfl rfl (hv_new 0 rfl) rfl rfl rfl, ?_⟩
          conv => whnf
          exact ⟨⟨_, rfl⟩, rfl⟩
      | false =>
        conv => whnf
        refine (digit_spec x _).mono ?_
        rintro r h' ⟨rfl, rfl⟩
        cases q2 : digitB x with
        | true =>
          conv => whnf
          refine ⟨_, ald_leaf (E := E) rfl rfl (hv_old hr) rfl rfl, ?_⟩
          conv => whnf
          refine (run_spec s (by omega) 45 digitB _ fun c => digit_spec c _).mono ?_
          rintro r h' ⟨rfl, rfl⟩
          have hle := runL_le digitB s
          have hat := runL_at digitB s
          have hpos := runL_pos digitB s hp (by rw [hx']; exact q2)
          generalize runL digitB s = n at hle hat hpos
          conv => whnf
          by_cases hn : 9 < n
          · rw [decide_eq_true (show (9 : Int) < (n : Nat) by omega)]
            rw [decide_eq_true hn]
            conv => whnf
            refine ⟨_, ald_struct (E := E) rfl rfl (hv_new 1 rfl) rfl rfl rfl, ?_⟩
            conv => whnf
            refine ⟨_, hv_new 0 rfl, rfl, nle rfl, ?_⟩
            conv => whnf
            rw [hv_set_0]
            refine ⟨_, ald_struct (E := E) rfl rfl (hv_new 0 rfl) rfl rfl rfl, ?_⟩
            conv => whnf
            exact ⟨⟨_, hv_self hr⟩, rfl⟩
          · rw [decide_eq_false (show ¬ (9 : Int) < (n : Nat) by omega), decide_eq_false hn]
            conv => whnf
            rw [d8 x 48 48 rfl]
            cases q3 : decide (x = 48) && decide (1 < n) with
            | true =>
              simp only [Bool.and_eq_true] at q3
              rw [q3.1]
              conv => whnf
              rw [decide_eq_true (show (1 : Int) < (n : Nat) by have := of_decide_eq_true q3.2; omega)]
              conv => whnf
              refine ⟨_, ald_struct (E := E) rfl rfl (hv_new 1 rfl) rfl rfl rfl, ?_⟩
              conv => whnf
              refine ⟨_, hv_new 0 rfl, rfl, nle rfl, ?_⟩
              conv => whnf
              rw [hv_set_0]
              refine ⟨_, ald_struct (E := E) rfl rfl (hv_new 0 rfl) rfl rfl rfl, ?_⟩
              conv => whnf
              exact ⟨⟨_, hv_self hr⟩, rfl⟩
            | false =>
              by_cases q4 : x = 48
              · rw [decide_eq_true q4] at q3 ⊢
                simp only [Bool.true_and, decide_eq_false_iff_not] at q3
                conv => whnf
                rw [decide_eq_false (show ¬ (1 : Int) < (n : Nat) by omega)]
                conv => whnf
                refine ⟨_, hv_new 1 rfl, rfl, nle rfl, ?_⟩
                conv => whnf
                rw [hv_set_new 1]
                refine ⟨_, ald_leaf (E := E) rfl rfl (hv_old hr) rfl rfl, ?_⟩
                conv => whnf
                refine ⟨by decide, by omega, by omega, ?_⟩
                have etk : (s.drop (Int.toNat 0)).take ((n : Int).toNat - Int.toNat 0) = s.take n := by simp
                rw [etk]
                refine (atoi48 (s.take n) (by simp; omega) (by simp; omega) (fun j hj => ?_) _).mono ?_
                · simp only [List.length_take] at hj
                  rw [List.getD_eq_getElem?_getD, List.getElem?_take, if_pos (by omega), ← List.getD_eq_getElem?_getD]
                  exact hat j (by omega)
                rintro r h' ⟨rfl, rfl⟩
                conv => whnf
                refine ⟨_, hv_new 1 rfl, rfl, nle rfl, ?_⟩
                conv => whnf
                rw [hv_set_new 1]
                refine ⟨_, ald_leaf (E := E) rfl rfl (hv_old hr) rfl rfl, ?_⟩
                conv => whnf
                refine ⟨_, hv_new 1 rfl, rfl, nle rfl, ?_⟩
                conv => whnf
                refine ⟨by decide, by omega, by omega, ?_⟩
                rw [hv_set_new 1]
                refine (skip_spec _ rid s l c n (hv_old hr) hle (by omega)).mono ?_
                rintro r h' ⟨rfl, rfl⟩
                rw [hv_set_old hr]
                conv => whnf
                refine ⟨_, ald_struct (E := E) rfl rfl (hv_new 1 rfl) rfl rfl rfl, ?_⟩
                conv => whnf
                refine ⟨_, hv_new 0 rfl, rfl, nle rfl, ?_⟩
                conv => whnf
                rw [hv_set_0]
                refine ⟨_, ald_struct (E := E) rfl rfl (hv_new 0 rfl) rfl rfl rfl, ?_⟩
                conv => whnf
                exact ⟨⟨_, rfl⟩, rfl⟩
              · rw [decide_eq_false q4]
                conv => whnf
                refine ⟨_, hv_new 1 rfl, rfl, nle rfl, ?_⟩
                conv => whnf
                rw [hv_set_new 1]
                refine ⟨_, ald_leaf (E := E) rfl rfl (hv_old hr) rfl rfl, ?_⟩
                conv => whnf
                refine ⟨by decide, by omega, by omega, ?_⟩
                have etk : (s.drop (Int.toNat 0)).take ((n : Int).toNat - Int.toNat 0) = s.take n := by simp
                rw [etk]
                refine (atoi48 (s.take n) (by simp; omega) (by simp; omega) (fun j hj => ?_) _).mono ?_
                · simp only [List.length_take] at hj
                  rw [List.getD_eq_getElem?_getD, List.getElem?_take, if_pos (by omega), ← List.getD_eq_getElem?_getD]
                  exact hat j (by omega)
                rintro r h' ⟨rfl, rfl⟩
                conv => whnf
                refine ⟨_, hv_new 1 rfl, rfl, nle rfl, ?_⟩
                conv => whnf
                rw [hv_set_new 1]
                refine ⟨_, ald_leaf (E := E) rfl rfl (hv_old hr) rfl rfl, ?_⟩
                conv => whnf
                refine ⟨_, hv_new 1 rfl, rfl, nle rfl, ?_⟩
                conv => whnf
                refine ⟨by decide, by omega, by omega, ?_⟩
                rw [hv_set_new 1]
                refine (skip_spec _ rid s l c n (hv_old hr) hle (by omega)).mono ?_
                rintro r h' ⟨rfl, rfl⟩
                rw [hv_set_old hr]
                conv => whnf
                refine ⟨_, ald_struct (E := E) rfl rfl (hv_new 1 rfl) rfl rfl rfl, ?_⟩
                conv => whnf
                refine ⟨_, hv_new 0 rfl, rfl, nle rfl, ?_⟩
                conv => whnf
                rw [hv_set_0]
                refine ⟨_, ald_struct (E := E) rfl rfl (hv_new 0 rfl) rfl rfl rfl, ?_⟩
                conv => whnf
                exact ⟨⟨_, rfl⟩, rfl⟩
        | false =>
          conv => whnf
          refine (indexByte49 signsL x _).mono ?_
          rintro r h' ⟨rfl, rfl⟩
          cases q3 : decide (0 ≤ idxL signsL x) with
          | true =>
            conv => whnf
            rw [q3]
            conv => whnf
            refine ⟨_, hv_new 1 rfl, rfl, nle rfl, ?_⟩
            conv => whnf
            rw [hv_set_new 1]
            refine ⟨_, ald_leaf (E := E) rfl rfl (hv_old hr) rfl rfl, ?_⟩
            conv => whnf
            refine ⟨_, hv_new 1 rfl, rfl, nle rfl, ?_⟩
            conv => whnf
            refine ⟨by decide, by decide, show (1 : Int) ≤ (s.length : Nat) by omega, ?_⟩
            rw [hv_set_new 1]
            refine (skip_spec _ rid s l c 1 (hv_old hr) (by omega) (by omega)).mono ?_
            rintro r h' ⟨rfl, rfl⟩
            rw [hv_set_old hr]
            conv => whnf
            refine ⟨_, ald_struct (E := E) rfl rfl (hv_new 1 rfl) rfl rfl rfl, ?_⟩
            conv => whnf
            refine ⟨_, hv_new 0 rfl, rfl, nle rfl, ?_⟩
            conv => whnf
            rw [hv_set_0]
            refine ⟨_, ald_struct (E := E) rfl rfl (hv_new 0 rfl) rfl rfl rfl, ?_⟩
            conv => whnf
            exact ⟨⟨_, rfl⟩, rfl⟩
          | false =>
            conv => whnf
            rw [q3]
            conv => whnf
            refine ⟨_, ald_struct (E := E) rfl rfl (hv_new 1 rfl) rfl rfl rfl, ?_⟩
            conv => whnf
            refine ⟨_, hv_new 0 rfl, rfl, nle rfl, ?_⟩
            conv => whnf
            rw [hv_set_0]
            refine ⟨_, ald_struct (E := E) rfl rfl (hv_new 0 rfl) rfl rfl rfl, ?_⟩
            conv => whnf
            exact ⟨⟨_, hv_self hr⟩, rfl⟩
  · intro r h2 hR
    cases ht : tokenL s l c with
    | none =>
      rw [ht] at hR
      obtain ⟨⟨e, rfl⟩, rfl⟩ := hR
      exact ⟨h, e, rfl, Nat.le_refl _, fun hh => hh, by simp [AE.under, AV.under, underL, tkV], rfl, rfl⟩
    | some tn =>
      rw [ht] at hR
      obtain ⟨⟨e, rfl⟩, rfl⟩ := hR
      refine ⟨h.set rid (rdO (s.drop tn.2) l (c + tn.2)), e, rfl, by simp, fun hh i o ho hd => ?_, by simp [AE.under, AV.under, underL, tkV], rfl, rfl⟩
      simp only [List.length_set]
      by_cases hi : rid = i
      · subst hi
        rw [List.getElem?_set_self (hlt hr)] at ho
        cases ho
        simp [rdO, underL, AV.under]
      · rw [List.getElem?_set_ne hi] at ho; exact hh i o ho hd
end Go.Sim.Tryd
