/- Package lex: key words, names. -/
import Derived.Test.YtabobghngfmilaaDoorLx5
set_option linter.unusedSimpArgs false
namespace Go.S2.Tryd
open Go.Proofs Go.Lx

def strC (s : List UInt8) : List AV := [.s s]
theorem strC_len (s : List UInt8) : (strC s).length = 1 := rfl

/-- The first place of a text in a list. -/
def idxS (v : List UInt8) : List (List UInt8) → Nat → Int
  | [], _ => -1
  | x :: l, k => if v = x then k else idxS v l (k + 1)

theorem sIndex_spec (l : List (List UInt8)) (v : List UInt8) (hl : l.length < 4611686018427387904) : Call Tryd.prog 40 [.im (enc strC l) l.length, .s v] (fun r h => h = [] ∧ r = .ret (.i .i64 (idxS v l 0))) [] := by
  refine Call.of_body (E := E) Tryd.func40 Tryd.ntmps40 (rs := [_]) Tryd.results40 rfl (by decide) rfl ?_
  generalize hR : idxS v l 0 = R
  conv => whnf
  refine (Loop.ind (fun i : Nat => i ≤ l.length ∧ idxS v (l.drop i) i = R) (fun i => [(0, .im (enc strC l) l.length), (1, .s v), (6, .im (enc strC l) l.length), (7, .i .i64 l.length), (8, .i .i64 i)]) (fun _ => []) (fun i => l.length - i) ?_ 0 ⟨Nat.zero_le _, hR⟩).to [] rfl rfl rfl ⟨rfl, rfl, rfl, rfl, rfl, trivial⟩
  intro i hI ih
  by_cases h1 : i < l.length
  · conv => whnf
    rw [decide_eq_true (show (i : Int) < (l.length : Nat) by omega)]
    conv => whnf
    have hd := hI.2
    rw [List.drop_eq_getElem_cons h1] at hd
    unfold idxS at hd
    generalize hx : l[i] = x at hd
    refine ⟨enc_len strC_len l, by omega, by omega, _, enc_elC strC_len (x := x) (by rw [List.getElem?_eq_getElem h1, hx]), ?_⟩
    by_cases h2 : v = x
    · rw [if_pos h2] at hd
      conv => whnf
      rw [decide_eq_true h2]
      conv => whnf
      exact .here ⟨rfl, by rw [← hd]⟩
    · rw [if_neg h2] at hd
      conv => whnf
      rw [decide_eq_false h2]
      conv => whnf
      refine (ih (i + 1) ⟨by omega, hd⟩ (by omega)).to [] rfl rfl rfl ⟨rfl, rfl, rfl, rfl, ?_, trivial⟩
      show AV.i .i64 (IntKind.i64.wrap ((i : Int) + 1)) = _
      rw [wrap64_id (by omega) (by omega)]; simp
  · have hi : i = l.length := by omega
    subst hi
    have hd := hI.2
    rw [List.drop_length] at hd
    conv => whnf
    rw [decide_eq_false (show ¬ (l.length : Int) < (l.length : Nat) by omega)]
    conv => whnf
    exact .here ⟨rfl, by rw [← hd]; rfl⟩

theorem sContains_spec (l : List (List UInt8)) (v : List UInt8) (hl : l.length < 4611686018427387904) : Call Tryd.prog 35 [.im (enc strC l) l.length, .s v] (fun r h => h = [] ∧ r = .ret (.b (decide (0 ≤ idxS v l 0)))) [] := by
  refine Call.of_body (E := E) Tryd.func35 Tryd.ntmps35 (rs := [_]) Tryd.results35 rfl (by decide) rfl ?_
  conv => whnf
  refine (sIndex_spec l v hl).mono ?_
  rintro r h' ⟨rfl, rfl⟩
  conv => whnf
  exact .here ⟨rfl, rfl⟩

def keysS : List UInt8 := [109, 115, 103, 32, 114, 101, 99, 32, 100, 101, 102, 32, 97, 99, 116, 111, 114, 32, 111, 110, 32, 108, 101, 116, 32, 110, 101, 119, 32, 115, 116, 97, 114, 116, 32, 103, 101, 116, 32, 115, 101, 116, 32, 115, 119, 97, 112, 32, 114, 101, 99, 111, 118, 101, 114, 32, 103, 105, 118, 101, 32, 108, 111, 111, 112, 32, 115, 112, 97, 119, 110, 32, 99, 97, 108, 108, 32, 97, 103, 97, 105, 110, 32, 103, 117, 97, 114, 100, 32, 102, 114, 101, 101, 32, 97, 115, 32, 105, 102, 32, 101, 108, 115, 101, 32, 100, 111, 110, 101, 32, 109, 111, 118, 101, 32, 105, 110, 116, 32, 97, 114, 114, 32, 105, 115, 111, 32, 118, 97, 108, 32, 114, 101, 102, 32, 116, 97, 103]

theorem space_lt (x : UInt8) : (x.toNat : Int) < (256 : Nat) := by have := x.toNat_lt; omega
theorem space_el (x : UInt8) (_ : (x.toNat : Int) < (256 : Nat)) : (((List.range 256).map fun n => AV.i .u8 (spaceN n)).drop ((x.toNat : Int).toNat * 1)).take 1 = [AV.i .u8 (spaceN x.toNat)] := by
  have := x.toNat_lt
  rw [Int.toNat_natCast, Nat.mul_one, ← List.map_drop, ← List.map_take, List.drop_eq_getElem_cons (by simpa using this)]
  simp

/-- The count's state before the i-th byte. -/
def stF (s : List UInt8) : Nat → Int × Int × Int
  | 0 => (0, 1, 0)
  | i + 1 =>
    (IntKind.i64.wrap ((stF s i).1 + IntKind.i64.wrap (BitVec.ofInt IntKind.i64.bits (stF s i).2.1 &&& BitVec.ofInt IntKind.i64.bits (IntKind.i64.wrap (BitVec.ofInt IntKind.i64.bits (if IntKind.i64.signed = true then -1 else IntKind.i64.max) ^^^ BitVec.ofInt IntKind.i64.bits (IntKind.i64.wrap (spaceN (s.getD i 0).toNat))).toNat)).toNat),
     IntKind.i64.wrap (spaceN (s.getD i 0).toNat),
     IntKind.u8.wrap (BitVec.ofInt IntKind.u8.bits (stF s i).2.2 ||| BitVec.ofInt IntKind.u8.bits (s.getD i 0).toNat).toNat)

/-- The second run: how many words are whole, where the next begins, the words. -/
def stG (s : List UInt8) : Nat → Nat × Nat × List (List UInt8)
  | 0 => (0, 0, List.replicate 30 [])
  | i + 1 => if spaceN (s.getD i 0).toNat = 0 then stG s i else ((stG s i).1 + 1, i + 1, (stG s i).2.2.set (stG s i).1 ((s.drop (stG s i).2.1).take (i - (stG s i).2.1)))

def keysL : List (List UInt8) := ((stG keysS 138).2.2.set (stG keysS 138).1 (keysS.drop (stG keysS 138).2.1))

theorem stF_end : stF keysS 138 = (30, 0, 127) := by decide +kernel
theorem stG_ok : ∀ i : Fin 139, (stG keysS i.val).1 < 30 ∧ (stG keysS i.val).2.1 ≤ i.val ∧ (stG keysS i.val).2.2.length = 30 := by decide +kernel
theorem keys_sp : ∀ i : Fin 138, spaceN (keysS.getD i.val 0).toNat = 0 ∨ (i.val + 1 < 138 ∧ spaceN (keysS.getD (i.val + 1) 0).toNat = 0) := by decide +kernel
theorem keys_0 : spaceN (keysS.getD 0 0).toNat = 0 := by decide +kernel
theorem keys_end : (stG keysS 138).2.1 < 138 := by decide +kernel

theorem fields_spec (s : List UInt8) (hs : s = keysS) : Call Tryd.prog 36 [.s s] (fun r h => h = [] ∧ r = .ret (.im (enc strC keysL) 30)) [] := by
  refine Call.of_body (E := E) Tryd.func36 Tryd.ntmps36 (rs := [_]) Tryd.results36 rfl (by decide) rfl ?_
  have hlen : s.length = 138 := by rw [hs]; rfl
  conv => whnf
  refine (Loop.ind (fun i : Nat => i ≤ 138) (fun i => [(0, .s s), (2, .sl none 0 0 true), (3, .i .i64 (stF s i).1), (4, .i .i64 (stF s i).2.1), (5, .i .u8 (stF s i).2.2), (6, .i .i64 i)]) (fun _ => []) (fun i => 138 - i) ?_ 0 (by decide)).to [] rfl rfl rfl ⟨rfl, rfl, rfl, rfl, rfl, rfl, trivial⟩
  intro i hi ih
  by_cases h1 : i < 138
  · conv => whnf
    rw [decide_eq_true (show (i : Int) < (s.length : Nat) by omega)]
    conv => whnf
    refine ⟨by omega, by omega, ?_⟩
    conv => whnf
    refine ⟨by show _ = 256 * 1; simp, by omega, space_lt _, _, space_el _ (space_lt _), ?_⟩
    conv => whnf
    refine (ih (i + 1) h1 (by omega)).to [] rfl rfl rfl ⟨rfl, rfl, rfl, rfl, rfl, ?_, trivial⟩
    show AV.i .i64 (IntKind.i64.wrap ((i : Int) + 1)) = _
    rw [wrap64_id (by omega) (by omega)]; simp
  · have hi' : i = 138 := by omega
    subst hi'
    conv => whnf
    rw [decide_eq_false (show ¬ ((138 : Nat) : Int) < (s.length : Nat) by omega)]
    have hF : stF s 138 = (30, 0, 127) := by rw [hs]; exact stF_end
    rw [hF]
    clear hF ih
    conv => whnf
    refine ⟨by decide, by decide, by decide, by decide, ?_⟩
    conv => whnf
    have k0 : spaceN (s.getD 0 0).toNat = 0 := by rw [hs]; exact keys_0
    have ksp : ∀ i, i < 138 → spaceN (s.getD i 0).toNat = 0 ∨ (i + 1 < 138 ∧ spaceN (s.getD (i + 1) 0).toNat = 0) := fun i hi => by rw [hs]; exact keys_sp ⟨i, hi⟩
    have kok : ∀ i, i < 139 → (stG s i).1 < 30 ∧ (stG s i).2.1 ≤ i ∧ (stG s i).2.2.length = 30 := fun i hi => by rw [hs]; exact stG_ok ⟨i, hi⟩
    have ke : (stG s 138).2.1 < 138 := by rw [hs]; exact keys_end
    have kl : (stG s 138).2.2.set (stG s 138).1 (s.drop (stG s 138).2.1) = keysL := by rw [hs]; rfl
    refine Loop.round ?_
    conv => whnf
    rw [decide_eq_true (show (0 : Int) < (s.length : Nat) by omega)]
    conv => whnf
    refine ⟨by decide, by omega, ?_⟩
    refine ⟨by show _ = 256 * 1; simp, by omega, space_lt _, _, space_el _ (space_lt _), ?_⟩
    conv => whnf
    rw [show decide (spaceN (s.getD (Int.toNat 0) 0).toNat = 0) = true from decide_eq_true k0]
    conv => whnf
    refine (Loop.ind (fun i : Nat => i ≤ 138) (fun i => [(0, .s s), (9, .sl (some (0, 0)) 30 1 false), (10, .i .i64 (stG s i).1), (11, .i .i64 (stG s i).2.1), (12, .i .i64 i)]) (fun i => [⟨9, enc strC (stG s i).2.2, .vec⟩]) (fun i => 138 - i) ?_ 0 (by decide)).to [0] rfl rfl rfl ⟨rfl, rfl, rfl, rfl, rfl, trivial⟩
    intro i hi ih
    by_cases h1 : i < 138
    · conv => whnf
      rw [decide_eq_true (show (i : Int) < (s.length : Nat) by omega)]
      conv => whnf
      refine ⟨by omega, by omega, ?_⟩
      refine ⟨by show _ = 256 * 1; simp, by omega, space_lt _, _, space_el _ (space_lt _), ?_⟩
      conv => whnf
      obtain ⟨q1, q2, q3⟩ := kok i (by omega)
      by_cases h2 : spaceN (s.getD i 0).toNat = 0
      · rw [show decide (spaceN (s.getD (Int.toNat (i : Int)) 0).toNat = 0) = true from decide_eq_true h2]
        have hg : stG s (i + 1) = stG s i := by show (if _ then _ else _) = _; rw [if_pos h2]
        conv => whnf
        refine (ih (i + 1) h1 (by omega)).to [0] rfl (by rw [hg]; rfl) rfl ⟨rfl, rfl, by rw [hg]; rfl, by rw [hg]; rfl, ?_, trivial⟩
        show AV.i .i64 (IntKind.i64.wrap ((i : Int) + 1)) = _
        rw [wrap64_id (by omega) (by omega)]; simp
      · rw [show decide (spaceN (s.getD (Int.toNat (i : Int)) 0).toNat = 0) = false from decide_eq_false h2]
        have hg : stG s (i + 1) = ((stG s i).1 + 1, i + 1, (stG s i).2.2.set (stG s i).1 ((s.drop (stG s i).2.1).take (i - (stG s i).2.1))) := by show (if _ then _ else _) = _; rw [if_neg h2]
        obtain ⟨q4, q5⟩ := (ksp i h1).resolve_left h2
        generalize stG s i = G at q1 q2 q3 hg
        obtain ⟨na, fs, acc⟩ := G
        replace q1 : na < 30 := q1
        replace q2 : fs ≤ i := q2
        replace q3 : acc.length = 30 := q3
        have hw : ∀ n : Nat, n < 1000 → AV.i .i64 (IntKind.i64.wrap ((n : Int) + 1)) = .i .i64 ((n + 1 : Nat) : Int) := fun n hn => by rw [wrap64_id (by omega) (by omega)]; simp
        have hsp : splice (enc strC acc) (0 + ((na : Nat) : Int).toNat * 1) [AV.s ((s.drop ((fs : Nat) : Int).toNat).take (((i : Nat) : Int).toNat - ((fs : Nat) : Int).toNat))] = enc strC (acc.set na ((s.drop fs).take (i - fs))) := by
          rw [Nat.zero_add, Int.toNat_natCast, Int.toNat_natCast, Int.toNat_natCast]
          exact enc_splice strC_len acc na ((s.drop fs).take (i - fs)) (by omega)
        conv => whnf
        refine ⟨show (0 : Int) ≤ (fs : Nat) by omega, show (fs : Int) ≤ (i : Nat) by omega, show (i : Int) ≤ (s.length : Nat) by omega, show (0 : Int) ≤ (na : Nat) by omega, show (na : Int) < (30 : Nat) by omega, ?_⟩
        refine ⟨by show 0 + ((na : Nat) : Int).toNat * 1 + 1 ≤ (enc strC acc).length; rw [enc_len strC_len, q3]; omega, ?_⟩
        conv => whnf
        refine Loop.round ?_
        conv => whnf
        rw [show IntKind.i64.wrap ((i : Int) + 1) = ((i + 1 : Nat) : Int) by rw [wrap64_id (by omega) (by omega)]; simp]
        rw [decide_eq_true (show ((i + 1 : Nat) : Int) < (s.length : Nat) by omega)]
        conv => whnf
        refine ⟨by omega, by omega, ?_⟩
        refine ⟨by show _ = 256 * 1; simp, by omega, space_lt _, _, space_el _ (space_lt _), ?_⟩
        conv => whnf
        rw [show decide (spaceN (s.getD (Int.toNat ((i + 1 : Nat) : Int)) 0).toNat = 0) = true from decide_eq_true q5]
        conv => whnf
        refine (ih (i + 1) h1 (by omega)).to [0] rfl ?_ rfl ⟨rfl, rfl, ?_, by rw [hg]; rfl, rfl, trivial⟩
        · show [AObj.mk _ (splice (enc strC acc) (0 + ((na : Nat) : Int).toNat * 1) [AV.s ((s.drop ((fs : Nat) : Int).toNat).take (((i : Nat) : Int).toNat - ((fs : Nat) : Int).toNat))]) .vec] = _
          rw [hsp, hg]
        · rw [hg]; exact hw na (by omega)
    · have hi' : i = 138 := by omega
      subst hi'
      obtain ⟨q1, q2, q3⟩ := kok 138 (by omega)
      clear ih
      generalize stG s 138 = G at q1 q2 q3 ke kl
      obtain ⟨na, fs, acc⟩ := G
      replace q1 : na < 30 := q1
      replace q3 : acc.length = 30 := q3
      replace ke : fs < 138 := ke
      replace kl : acc.set na (s.drop fs) = keysL := kl
      conv => whnf
      rw [decide_eq_false (show ¬ ((138 : Nat) : Int) < (s.length : Nat) by omega)]
      conv => whnf
      rw [decide_eq_true (show (fs : Int) < (s.length : Nat) by omega)]
      conv => whnf
      refine ⟨show (0 : Int) ≤ (fs : Nat) by omega, show (fs : Int) ≤ (s.length : Nat) by omega, Int.le_refl _, show (0 : Int) ≤ (na : Nat) by omega, show (na : Int) < (30 : Nat) by omega, ?_⟩
      refine ⟨by show 0 + ((na : Nat) : Int).toNat * 1 + 1 ≤ (enc strC acc).length; rw [enc_len strC_len, q3]; omega, ?_⟩
      conv => whnf
      refine .frz [0] (.keep [] rfl ⟨rfl, ?_⟩)
      show AE.ret (.im (((splice (enc strC acc) (0 + ((na : Nat) : Int).toNat * 1) [AV.s ((s.drop ((fs : Nat) : Int).toNat).take (((s.length : Nat) : Int).toNat - ((fs : Nat) : Int).toNat))]).drop 0).take (30 * 1)) 30) = _
      have hsp : splice (enc strC acc) (0 + ((na : Nat) : Int).toNat * 1) [AV.s ((s.drop ((fs : Nat) : Int).toNat).take (((s.length : Nat) : Int).toNat - ((fs : Nat) : Int).toNat))] = enc strC keysL := by
        rw [Nat.zero_add, Int.toNat_natCast, Int.toNat_natCast, Int.toNat_natCast, ← kl]
        have := enc_splice strC_len acc na (s.drop fs) (by omega)
        rw [List.take_of_length_le (by simp)]
        exact this
      rw [hsp, List.drop_zero, List.take_of_length_le (by rw [enc_len strC_len, ← kl]; simp [q3])]

theorem wordB_eq (s : List UInt8) (h : 1 ≤ s.length) : wordB s = (decide (s.length ≤ 16) && (letterB (s.getD 0 0) && decide (runL innerB s = s.length))) := by
  cases s with
  | nil => simp at h
  | cons c s => simp [wordB, Bool.and_assoc]

theorem word_spec (s : List UInt8) (hs : s.length < 9223372036854775807) : Call Tryd.prog 9 [.s s] (fun r h => h = [] ∧ r = .ret (.b (wordB s))) [] := by
  refine Call.of_body (E := E) Tryd.func9 Tryd.ntmps9 (rs := [_]) Tryd.results9 rfl (by decide) rfl ?_
  by_cases h0 : 1 ≤ s.length
  · conv => whnf
    rw [decide_eq_true (show (1 : Int) ≤ (s.length : Nat) by omega)]
    rw [wordB_eq s h0]
    by_cases h1 : s.length ≤ 16
    · rw [decide_eq_true h1]
      conv => whnf
      rw [decide_eq_true (show ((s.length : Nat) : Int) ≤ 16 by omega)]
      conv => whnf
      refine ⟨by omega, by omega, ?_⟩
      refine (letter_spec (s.getD 0 0)).mono ?_
      rintro r h' ⟨rfl, rfl⟩
      cases h2 : letterB (s.getD 0 0) with
      | true =>
        conv => whnf
        refine (run_spec s hs 26 innerB (fun c => inner_spec c)).mono ?_
        rintro r h2 ⟨rfl, rfl⟩
        conv => whnf
        refine .here ⟨rfl, ?_⟩
        simp only [Bool.true_and]
        congr 2
        rw [Bool.eq_iff_iff]
        simp only [decide_eq_true_eq]
        omega
      | false =>
        conv => whnf
        exact .here ⟨rfl, rfl⟩
    · rw [decide_eq_false h1]
      conv => whnf
      rw [decide_eq_false (show ¬ ((s.length : Nat) : Int) ≤ 16 by omega)]
      conv => whnf
      exact .here ⟨rfl, rfl⟩
  · have : s = [] := List.eq_nil_of_length_eq_zero (by omega)
    subst this
    conv => whnf
    exact .here ⟨rfl, rfl⟩

def keyB (s : List UInt8) : Bool := wordB s && decide (0 ≤ idxS s keysL 0)
def nameB (s : List UInt8) : Bool := wordB s && !keyB s

theorem keysL_len : keysL.length = 30 := by decide +kernel

theorem key_spec (s : List UInt8) (hs : s.length < 9223372036854775807) : Call Tryd.prog 15 [.s s] (fun r h => h = [] ∧ r = .ret (.b (keyB s))) [] := by
  refine Call.of_body (E := E) Tryd.func15 Tryd.ntmps15 (rs := [_]) Tryd.results15 rfl (by decide) rfl ?_
  conv => whnf
  refine (word_spec s hs).mono ?_
  rintro r h' ⟨rfl, rfl⟩
  unfold keyB
  cases h1 : wordB s with
  | true =>
    conv => whnf
    refine (fields_spec _ rfl).mono ?_
    rintro r h' ⟨rfl, rfl⟩
    conv => whnf
    have hc := sContains_spec keysL s (by rw [keysL_len]; decide)
    rw [keysL_len] at hc
    refine hc.mono ?_
    rintro r h' ⟨rfl, rfl⟩
    conv => whnf
    exact .here ⟨rfl, rfl⟩
  | false =>
    conv => whnf
    exact .here ⟨rfl, rfl⟩

theorem name_spec (s : List UInt8) (hs : s.length < 9223372036854775807) : Call Tryd.prog 17 [.s s] (fun r h => h = [] ∧ r = .ret (.b (nameB s))) [] := by
  refine Call.of_body (E := E) Tryd.func17 Tryd.ntmps17 (rs := [_]) Tryd.results17 rfl (by decide) rfl ?_
  conv => whnf
  refine (word_spec s hs).mono ?_
  rintro r h' ⟨rfl, rfl⟩
  unfold nameB
  cases h1 : wordB s with
  | true =>
    conv => whnf
    refine (key_spec s hs).mono ?_
    rintro r h' ⟨rfl, rfl⟩
    conv => whnf
    exact .here ⟨rfl, rfl⟩
  | false =>
    conv => whnf
    exact .here ⟨rfl, rfl⟩

end Go.S2.Tryd
