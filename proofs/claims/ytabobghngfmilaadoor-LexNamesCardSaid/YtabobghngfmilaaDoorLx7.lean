/- Chapter 4's helps: numbers within, cuts, words, texts of words. -/
import Derived.Test.YtabobghngfmilaaDoorLx6
set_option linter.unusedSimpArgs false
namespace Go.S2.Tryd
open Go.Proofs Go.Lx

def withinI (v n : Int) : Int := if n < 1 then 0 else let k := v.tmod n; if k < 0 then k + n else k

theorem within_bd (v n : Int) (h : 1 ≤ n) : 0 ≤ withinI v n ∧ withinI v n < n := by
  have b1 := Int.tmod_lt_of_pos v (show 0 < n by omega)
  have b2 := Int.lt_tmod_of_pos v (show 0 < n by omega)
  unfold withinI
  rw [if_neg (by omega)]
  simp only
  split <;> omega

theorem within_spec (v n : Int) (hn : n < 4611686018427387904) : Call Tryd.prog 8 [.i .i64 v, .i .i64 n] (fun r h => h = [] ∧ r = .ret (.i .i64 (withinI v n))) [] := by
  refine Call.of_body (E := E) Tryd.func8 Tryd.ntmps8 (rs := [_]) Tryd.results8 rfl (by decide) rfl ?_
  conv => whnf
  unfold withinI
  by_cases h1 : n < 1
  · rw [decide_eq_true h1, if_pos h1]
    conv => whnf
    exact .here ⟨rfl, rfl⟩
  · rw [decide_eq_false h1, if_neg h1]
    conv => whnf
    refine ⟨by omega, ?_⟩
    have b1 := Int.tmod_lt_of_pos v (show 0 < n by omega)
    have b2 := Int.lt_tmod_of_pos v (show 0 < n by omega)
    generalize v.tmod n = k at b1 b2
    conv => whnf
    by_cases h2 : k < 0
    · rw [decide_eq_true h2]
      conv => whnf
      refine .here ⟨rfl, ?_⟩
      simp only [h2, if_true]
      rw [wrap64_id (by omega) (by omega)]
    · rw [decide_eq_false h2]
      conv => whnf
      refine .here ⟨rfl, ?_⟩
      simp only [h2, if_false]

def intC (n : Int) : List AV := [.i .i64 n]
theorem intC_len (n : Int) : (intC n).length = 1 := rfl

theorem copyI_spec (l : List Int) (hl : l.length < 17592186044416) : Call Tryd.prog 32 [.im (enc intC l) l.length] (fun r h => h = [] ∧ r = .ret (.im (enc intC l) l.length)) [] := by
  refine Call.of_body (E := E) Tryd.func32 Tryd.ntmps32 (rs := [_]) Tryd.results32 rfl (by decide) rfl ?_
  conv => whnf
  cases l with
  | nil =>
    conv => whnf
    refine ⟨rfl, rfl, ?_⟩
    conv => whnf
    exact .nil (.here ⟨rfl, rfl⟩)
  | cons a l =>
    conv => whnf
    refine ⟨enc_len intC_len (a :: l), rfl, by show (a :: l).length * 8 ≤ _; omega, by show (a :: l).length ≤ _; omega, ?_⟩
    conv => whnf
    refine .frz [0] (.keep [] rfl ⟨rfl, ?_⟩)
    show AE.ret (.im (((enc intC (a :: l)).drop 0).take ((a :: l).length * 1)) (a :: l).length) = _
    rw [List.drop_zero, enc_whole intC_len]

theorem cutI_spec (l : List Int) (n : Nat) (hl : l.length < 17592186044416) : Call Tryd.prog 13 [.im (enc intC l) l.length, .i .i64 n] (fun r h => h = [] ∧ r = .ret (.im (enc intC (l.take n)) (l.take n).length)) [] := by
  refine Call.of_body (E := E) Tryd.func13 Tryd.ntmps13 (rs := [_]) Tryd.results13 rfl (by decide) rfl ?_
  conv => whnf
  have hm : min (l.length : Int) n = ((min l.length n : Nat) : Int) := by omega
  rw [hm]
  refine ⟨Int.le_refl _, by omega, by omega, enc_len intC_len l, ?_⟩
  have he : ((enc intC l).drop (Int.toNat 0 * 1)).take ((((min l.length n : Nat) : Int).toNat - Int.toNat 0) * 1) = enc intC (l.take n) := by
    rw [enc_drop intC_len, enc_take intC_len]
    congr 1
    show (l.drop 0).take (min l.length n - 0) = _
    rw [List.drop_zero, Nat.sub_zero, take_min]
  have hn : ((min l.length n : Nat) : Int).toNat - Int.toNat 0 = (l.take n).length := by
    rw [List.length_take]; show min l.length n - 0 = _; omega
  conv => whnf
  refine Call.mono (R := fun r h => h = [] ∧ r = .ret (.im (enc intC (l.take n)) (l.take n).length)) ?_ ?_
  · have := copyI_spec (l.take n) (by simp; omega)
    rw [← he, ← hn] at this ⊢
    exact this
  rintro r h' ⟨rfl, rfl⟩
  conv => whnf
  exact .here ⟨rfl, rfl⟩

def wordsL : List (List UInt8) := [[109, 115, 103], [114, 101, 99], [100, 101, 102], [97, 99, 116, 111, 114], [111, 110], [108, 101, 116], [110, 101, 119], [115, 116, 97, 114, 116], [103, 101, 116], [115, 101, 116], [115, 119, 97, 112], [114, 101, 99, 111, 118, 101, 114], [103, 105, 118, 101], [108, 111, 111, 112], [115, 112, 97, 119, 110], [99, 97, 108, 108], [97, 103, 97, 105, 110], [103, 117, 97, 114, 100], [102, 114, 101, 101], [97, 115], [105, 102], [101, 108, 115, 101], [100, 111, 110, 101], [109, 111, 118, 101], [105, 110, 116], [97, 114, 114], [105, 115, 111], [118, 97, 108], [114, 101, 102], [116, 97, 103], [40], [41], [123], [125], [91], [93], [44], [59], [58], [61], [46], [43], [45], [42], [60], [94], [33], [63], [48], [49], [55], [49, 50], [97], [98], [109, 48], [109, 49], [120], [109, 97, 105, 110], [99, 101, 108, 108], [110], [115, 101, 108, 102], [35, 122, 10], [10], [48, 55], [65], [97, 86, 101, 114, 121, 95, 108, 111, 110, 103, 95, 110, 97, 109, 101, 57, 57]]
theorem wordsL_len : wordsL.length = 66 := rfl
theorem wordsL_le : ∀ w ∈ wordsL, w.length ≤ 17 := by decide

set_option maxRecDepth 100000 in
theorem words_spec : Call Tryd.prog 31 [] (fun r h => h = [] ∧ r = .ret (.im (enc strC wordsL) 66)) [] := by
  refine Call.of_body (E := E) Tryd.func31 Tryd.ntmps31 (rs := [_]) Tryd.results31 rfl (by decide) rfl ?_
  conv => whnf
  refine .frz [0] (.keep [] rfl ⟨rfl, ?_⟩)
  rfl

theorem text_spec (s : List UInt8) (n : Nat) : Call Tryd.prog 30 [.s s, .i .i64 n] (fun r h => h = [] ∧ r = .ret (.s (s.take n))) [] := by
  refine Call.of_body (E := E) Tryd.func30 Tryd.ntmps30 (rs := [_]) Tryd.results30 rfl (by decide) rfl ?_
  conv => whnf
  have hm : min (s.length : Int) n = ((min s.length n : Nat) : Int) := by omega
  rw [hm]
  refine ⟨Int.le_refl _, by omega, by omega, ?_⟩
  conv => whnf
  refine .here ⟨rfl, ?_⟩
  congr 2
  show (s.drop 0).take (min s.length n - 0) = _
  rw [List.drop_zero, Nat.sub_zero, take_min]

/-- A text of words, of whatever numbers: some text, not too long. -/
theorem ptext_spec (s : List UInt8) (picks : List Int) (hp : picks.length < 4611686018427387904) : Call Tryd.prog 12 [.s s, .im (enc intC picks) picks.length] (fun r h => h = [] ∧ ∃ t : List UInt8, t.length ≤ 1200 ∧ r = .ret (.s t)) [] := by
  refine Call.of_body (E := E) Tryd.func12 Tryd.ntmps12 (rs := [_]) Tryd.results12 rfl (by decide) rfl ?_
  conv => whnf
  refine (text_spec s 60).mono ?_
  rintro r h' ⟨rfl, rfl⟩
  conv => whnf
  refine words_spec.mono ?_
  rintro r h' ⟨rfl, rfl⟩
  conv => whnf
  have hw : ∀ j : Nat, j < 66 → ∃ w : List UInt8, wordsL[j]? = some w ∧ w.length ≤ 17 := fun j hj => ⟨wordsL[j]'(by rw [wordsL_len]; exact hj), List.getElem?_eq_getElem _, wordsL_le _ (List.getElem_mem _)⟩
  have hwl : (enc strC wordsL).length = 66 * 1 := enc_len strC_len wordsL
  have hwe : ∀ (j : Nat) w, wordsL[j]? = some w → ((enc strC wordsL).drop ((j : Int).toNat * 1)).take 1 = strC w := fun j w h => enc_elC strC_len h
  generalize enc strC wordsL = WL at hwl hwe
  refine (Loop.ind (fun x : Nat × List UInt8 => x.1 ≤ picks.length ∧ x.1 ≤ 61 ∧ x.2.length ≤ 60 + x.1 * 18) (fun x => [(5, .s x.2), (6, .im WL 66), (12, .im (enc intC picks) picks.length), (13, .i .i64 picks.length), (14, .i .i64 x.1)]) (fun _ => []) (fun x => picks.length - x.1) ?_ (0, s.take 60) ⟨Nat.zero_le _, Nat.zero_le _, by simp; omega⟩).to [] rfl rfl rfl ⟨rfl, rfl, rfl, rfl, rfl, trivial⟩
  rintro ⟨i, out⟩ ⟨i1, i2, i3⟩ ih
  replace i1 : i ≤ picks.length := i1
  replace i2 : i ≤ 61 := i2
  replace i3 : out.length ≤ 60 + i * 18 := i3
  by_cases h1 : i < picks.length
  · conv => whnf
    rw [decide_eq_true (show (i : Int) < (picks.length : Nat) by omega)]
    conv => whnf
    generalize hk : picks[i] = k
    refine ⟨enc_len intC_len picks, show (0 : Int) ≤ (i : Nat) by omega, show (i : Int) < (picks.length : Nat) by omega, _, enc_elC intC_len (x := k) (by rw [List.getElem?_eq_getElem h1, hk]), ?_⟩
    conv => whnf
    by_cases h2 : 60 ≤ i
    · rw [show decide ((60 : Int) ≤ (i : Nat)) = true from decide_eq_true (by omega)]
      conv => whnf
      exact .here ⟨rfl, out, by omega, rfl⟩
    · rw [show decide ((60 : Int) ≤ (i : Nat)) = false from decide_eq_false (by omega)]
      conv => whnf
      refine (within_spec k 66 (by decide)).mono ?_
      rintro r h' ⟨rfl, rfl⟩
      obtain ⟨b1, b2⟩ := within_bd k 66 (by decide)
      obtain ⟨j, hj⟩ : ∃ j : Nat, withinI k 66 = j := ⟨_, (Int.toNat_of_nonneg b1).symm⟩
      rw [hj] at b2 ⊢
      obtain ⟨w, hw1, hw2⟩ := hw j (by omega)
      conv => whnf
      refine ⟨hwl, by omega, by omega, _, hwe j w hw1, ?_⟩
      conv => whnf
      refine ⟨show out.length + w.length < _ by omega, ?_⟩
      conv => whnf
      refine ⟨by decide, ?_⟩
      refine (within_spec (IntKind.i64.wrap (k.tdiv 128)) 5 (by decide)).mono ?_
      rintro r h' ⟨rfl, rfl⟩
      generalize withinI (IntKind.i64.wrap (k.tdiv 128)) 5 = q
      have hnext : AV.i .i64 (IntKind.i64.wrap ((i : Int) + 1)) = .i .i64 ((i + 1 : Nat) : Int) := by rw [wrap64_id (by omega) (by omega)]; simp
      by_cases h3 : 0 < q
      · conv => whnf
        rw [decide_eq_true h3]
        conv => whnf
        refine ⟨show (out ++ w).length + 1 < _ by simp; omega, ?_⟩
        conv => whnf
        refine (ih (i + 1, out ++ w ++ [32]) ⟨h1, by show i + 1 ≤ 61; omega, by simp; omega⟩ (by show picks.length - (i + 1) < picks.length - i; omega)).to [] rfl rfl rfl ⟨rfl, rfl, rfl, rfl, hnext, trivial⟩
      · conv => whnf
        rw [decide_eq_false h3]
        conv => whnf
        refine (ih (i + 1, out ++ w) ⟨h1, by show i + 1 ≤ 61; omega, by simp; omega⟩ (by show picks.length - (i + 1) < picks.length - i; omega)).to [] rfl rfl rfl ⟨rfl, rfl, rfl, rfl, hnext, trivial⟩
  · have hi : i = picks.length := by omega
    subst hi
    conv => whnf
    rw [show decide (((picks.length : Nat) : Int) < (picks.length : Nat)) = false from decide_eq_false (by omega)]
    conv => whnf
    exact .here ⟨rfl, out, by omega, rfl⟩

end Go.S2.Tryd
