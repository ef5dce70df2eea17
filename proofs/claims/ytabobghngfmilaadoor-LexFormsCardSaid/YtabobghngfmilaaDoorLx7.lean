/- Chapter 4's law of forms: the walk. -/
import Derived.Test.YtabobghngfmilaaDoorLx6
set_option linter.unusedSimpArgs false
namespace Go.Sim.Tryd
open Go.Proofs Go.Lx

theorem TkAt.sl {h H : AHeap} {l : List Tk} {lv : AV} (t : TkAt h l H lv) : TkSl H lv l := by
  rcases t with ⟨rfl, rfl⟩ | ⟨_, id, _, ho, rfl⟩
  · exact .inl ⟨rfl, _, _, rfl⟩
  · exact .inr ⟨id, 0, false, _, ho, rfl, by rw [tkCells_len]; omega, by rw [List.drop_zero]; exact List.take_of_length_le (by rw [tkCells_len]; exact Nat.le_refl _), rfl⟩

def exToks : List Tk := [⟨1, 0, 1, 1, [97, 49]⟩, ⟨2, 12, 1, 4, [49, 50]⟩, ⟨4, 0, 1, 6, []⟩]
theorem lexL_ex : lexL [97, 49, 32, 49, 50] = (exToks, 0, 0, 0) := by decide

theorem wakes_spec (h : AHeap) : Call Tryd.prog 11 [] (fun r h' => h' = h ∧ r = .ret (.b true)) h := by
  refine Call.same ?_
  refine Call.of_body (E := E) Tryd.func11 Tryd.ntmps11 (rs := [_]) Tryd.results11 rfl (by decide) rfl ?_
  conv => whnf
  refine (tokens_spec [97, 49, 32, 49, 50] (by decide) h).mono ?_
  rw [lexL_ex]
  rintro r h' ⟨lv, hp, rfl, ht⟩
  have hl := ht.sl
  rcases ht with ⟨e, _⟩ | ⟨_, id, hid, ho, rfl⟩
  · cases e
  conv => whnf
  refine (same_spec _ (.sl (some (id, 0)) 3 5 false) (.sl (some (h'.length, 0)) 3 5 false) exToks exToks ?_ ?_ (by decide) (by decide)).mono ?_
  · rcases hl with ⟨e, _⟩ | ⟨id', off', tg', o, h1, h2, h3, h4, h5⟩
    · cases e
    · exact .inr ⟨id', off', tg', o, hget_l h1, h2, h3, h4, h5⟩
  · exact .inr ⟨h'.length, 0, false, _, hget_0 _ _, rfl, nle rfl, rfl, rfl⟩
  rintro r h2 ⟨rfl, rfl⟩
  conv => whnf
  exact ⟨hp.app _, trivial, rfl⟩

def tailL : List UInt8 := [95, 48, 49, 50, 51, 52, 53, 54, 55, 56, 57, 97, 98, 99, 100, 101, 102, 103, 104]
def wordN (k : Nat) : List UInt8 := List.replicate k 113
def digN (k : Nat) : List UInt8 := List.replicate k 55
def longN (k : Nat) : List UInt8 := wordN k ++ tailL.take (17 - k)

theorem forms_words : ∀ k : Fin 15, k.val = 0 ∨ (wordB ((longN k.val).take 16) = true ∧ wordB (longN k.val ++ [120]) = false ∧ wordB (49 :: wordN k.val) = false ∧ (longN k.val).length = 17 ∧
    (lexL (32 :: digN k.val)).2.2.2 = (if k.val ≤ 9 then 0 else 2) ∧ (k.val ≤ 9 ∨ (lexL (32 :: digN k.val)).2.1 = 1 ∧ (lexL (32 :: digN k.val)).2.2.1 = 2) ∧
    (lexL (48 :: digN k.val)).2.2.2 = 2 ∧ (lexL (48 :: digN k.val)).2.2.1 = 1) := by decide +kernel

def wantN (c : UInt8) : Nat := if innerB c = true ∨ c = 35 then 2 else if c = 32 ∨ c = 9 ∨ c = 10 then 3 else if signsL.any (c == ·) = true then 4 else 0

theorem forms_byte : ∀ c : Fin 256, (decide ((lexL [97, UInt8.ofNat c.val, 98]).2.2.2 = 0) = decide (0 < wantN (UInt8.ofNat c.val))) ∧ (lexL [97, UInt8.ofNat c.val, 98]).1.length = wantN (UInt8.ofNat c.val) := by decide +kernel

set_option maxRecDepth 100000 in
set_option maxHeartbeats 2000000 in
theorem forms_spec (n : Int) (c : UInt8) (h : AHeap) : Call Tryd.prog 3 [.i .i64 n, .i .u8 c.toNat] (fun r h' => Pre h h' ∧ r = .ret (.b true)) h := by
  refine Call.of_body (E := E) Tryd.func3 Tryd.ntmps3 (rs := [_]) Tryd.results3 rfl (by decide) rfl ?_
  conv => whnf
  refine (within_spec n 14 (by decide) h).mono ?_
  rintro r h' ⟨rfl, rfl⟩
  obtain ⟨k, hk, hkn⟩ : ∃ k : Nat, k < 14 ∧ withinI n 14 = k := by
    unfold withinI
    have b1 := Int.tmod_lt_of_pos n (show (0 : Int) < 14 by omega)
    have b2 := Int.lt_tmod_of_pos n (show (0 : Int) < 14 by omega)
    rw [if_neg (by decide)]
    by_cases h2 : n.tmod 14 < 0
    · refine ⟨(n.tmod 14 + 14).toNat, by omega, ?_⟩
      simp only [h2, if_true]; omega
    · refine ⟨(n.tmod 14).toNat, by omega, ?_⟩
      simp only [h2, if_false]; omega
  rw [hkn]
  obtain ⟨N, hN⟩ : ∃ N : Nat, N = k + 1 := ⟨_, rfl⟩
  have eN : IntKind.i64.wrap ((k : Int) + 1) = (N : Int) := by rw [wrap64_id (by omega) (by omega)]; omega
  conv => whnf
  rw [eN]
  refine Loop.ind (fun i : Nat => i ≤ N) (fun i => [(0, .i .i64 N), (1, .i .u8 c.toNat), (5, .s (wordN i)), (6, .s (digN i)), (7, .i .i64 i)]) (fun _ => h') (fun i => N - i) ?_ (x := 0) (Nat.zero_le _) ⟨rfl, rfl, rfl, rfl, rfl, trivial⟩
  intro i base hI ih
  by_cases hi : i < N
  · conv => whnf
    rw [decide_eq_true (show (i : Int) < (N : Nat) by omega)]
    conv => whnf
    refine ⟨by simp [wordN]; omega, ?_⟩
    conv => whnf
    refine ⟨by simp [digN]; omega, ?_⟩
    conv => whnf
    refine ih (i + 1) _ (by omega) (by omega) ⟨rfl, rfl, ?_, ?_, ?_, trivial⟩
    · show AV.s (wordN i ++ [113]) = _
      congr 1; exact List.replicate_succ'.symm
    · show AV.s (digN i ++ [55]) = _
      congr 1; exact List.replicate_succ'.symm
    · show AV.i .i64 (IntKind.i64.wrap ((i : Int) + 1)) = _
      rw [wrap64_id (by omega) (by omega)]; simp
  · have hiN : i = N := by omega
    subst hiN
    obtain ⟨f1, f2, f3, f4, f5, f6, f7, f8⟩ := (forms_words ⟨i, by omega⟩).resolve_left (by show ¬ i = 0; omega)
    replace f1 : wordB ((longN i).take 16) = true := f1
    replace f2 : wordB (longN i ++ [120]) = false := f2
    replace f3 : wordB (49 :: wordN i) = false := f3
    replace f4 : (longN i).length = 17 := f4
    replace f5 : (lexL (32 :: digN i)).2.2.2 = (if i ≤ 9 then 0 else 2) := f5
    replace f6 : i ≤ 9 ∨ (lexL (32 :: digN i)).2.1 = 1 ∧ (lexL (32 :: digN i)).2.2.1 = 2 := f6
    replace f7 : (lexL (48 :: digN i)).2.2.2 = 2 := f7
    replace f8 : (lexL (48 :: digN i)).2.2.1 = 1 := f8
    have lw : (wordN i).length = i := by simp [wordN]
    have ld : (digN i).length = i := by simp [digN]
    have e16 : IntKind.i64.wrap (IntKind.i64.wrap (16 - (i : Int)) + 1) = 17 - (i : Int) := by
      rw [wrap64_id (n := 16 - (i : Int)) (by omega) (by omega), wrap64_id (by omega) (by omega)]; omega
    conv => whnf
    rw [decide_eq_false (show ¬ (i : Int) < (i : Nat) by omega)]
    conv => whnf
    rw [e16]
    have etail : ((ByteArray.mk #[95, 48, 49, 50, 51, 52, 53, 54, 55, 56, 57, 97, 98, 99, 100, 101, 102, 103, 104]).data.toList.drop (Int.toNat 0)).take ((17 - (i : Int)).toNat - Int.toNat 0) = tailL.take (17 - i) := by
      show tailL.take _ = _
      congr 1
      show (17 - (i : Int)).toNat - 0 = _
      omega
    rw [etail]
    have elong : wordN i ++ tailL.take (17 - i) = longN i := rfl
    refine ⟨by decide, by omega, by show (17 - (i : Int)) ≤ 19; omega, by rw [lw]; simp [tailL]; omega, ?_⟩
    rw [elong]
    conv => whnf
    rw [decide_eq_false (show ¬ (16 : Int) < (i : Nat) by omega)]
    conv => whnf
    refine ⟨by decide, by decide, by omega, ?_⟩
    refine (word_spec ((longN i).take 16) (by simp; omega) h').mono ?_
    rintro r h1 ⟨rfl, rfl⟩
    rw [f1]
    conv => whnf
    refine ⟨by rw [f4]; decide, ?_⟩
    refine (word_spec (longN i ++ [120]) (by simp; omega) h1).mono ?_
    rintro r h2 ⟨rfl, rfl⟩
    rw [f2]
    conv => whnf
    refine (word_spec [] (by decide) h2).mono ?_
    rintro r h3 ⟨rfl, rfl⟩
    rw [show wordB [] = false from rfl]
    conv => whnf
    refine ⟨by rw [lw]; show 1 + i < _; omega, ?_⟩
    refine (word_spec (49 :: wordN i) (by simp [lw]; omega) h3).mono ?_
    rintro r h4 ⟨rfl, rfl⟩
    rw [f3]
    conv => whnf
    refine (word_spec [81] (by decide) h4).mono ?_
    rintro r h5 ⟨rfl, rfl⟩
    rw [show wordB [81] = false from rfl]
    conv => whnf
    refine ⟨by rw [ld]; show 1 + i < _; omega, ?_⟩
    refine (tokens_spec (32 :: digN i) (by simp [ld]; omega) h5).mono ?_
    rintro r h6 ⟨lv6, hp6, rfl, ht6⟩
    have hlv6 : ∃ a n z t, lv6 = .sl a n z t := by
      rcases ht6 with ⟨_, rfl⟩ | ⟨_, id, _, _, rfl⟩ <;> exact ⟨_, _, _, _, rfl⟩
    obtain ⟨a6, n6, z6, t6, rfl⟩ := hlv6
    clear ht6
    rw [f5]
    generalize (lexL (32 :: digN i)).2.1 = L1 at f6
    generalize (lexL (32 :: digN i)).2.2.1 = C1 at f6
    conv => whnf
    refine ⟨by rw [ld]; show 1 + i < _; omega, ?_⟩
    refine (tokens_spec (48 :: digN i) (by simp [ld]; omega) h6).mono ?_
    rintro r h7 ⟨lv7, hp7, rfl, ht7⟩
    have hlv7 : ∃ a n z t, lv7 = .sl a n z t := by
      rcases ht7 with ⟨_, rfl⟩ | ⟨_, id, _, _, rfl⟩ <;> exact ⟨_, _, _, _, rfl⟩
    obtain ⟨a7, n7, z7, t7, rfl⟩ := hlv7
    clear ht7
    rw [f7, f8]
    generalize (lexL (48 :: digN i)).2.1 = L2
    by_cases h9 : i ≤ 9
    · rw [if_pos h9]
      conv => whnf
      rw [decide_eq_true (show (i : Int) ≤ 9 by omega)]
      conv => whnf
      refine ⟨_, _, OpV.bytesToStr (e := 5) (bs := [c]) rfl (uSl (E := E) rfl rfl) (uInt (E := E) rfl rfl) (uStr (E := E) rfl rfl) rfl (by decide) (srcCells_some (o := ⟨5, [byteAV c], .rw⟩) (hget_0 _ _) (fun e => by cases e) (nle rfl)), ?_⟩
      conv => whnf
      refine ⟨by show 1 + 1 < _; decide, by show 2 + 1 < _; decide, ?_⟩
      refine (tokens_spec [97, c, 98] (by show 3 < _; decide) _).mono ?_
      rintro r h8 ⟨lv8, hp8, rfl, ht8⟩
      obtain ⟨g1, g2⟩ := forms_byte ⟨c.toNat, c.toNat_lt⟩
      replace g1 : decide ((lexL [97, UInt8.ofNat c.toNat, 98]).2.2.2 = 0) = decide (0 < wantN (UInt8.ofNat c.toNat)) := g1
      replace g2 : (lexL [97, UInt8.ofNat c.toNat, 98]).1.length = wantN (UInt8.ofNat c.toNat) := g2
      rw [UInt8.ofNat_toNat] at g1 g2
      have hlv8 : ∃ a z t, lv8 = .sl a (wantN c) z t := by
        rcases ht8 with ⟨e, rfl⟩ | ⟨_, id, _, _, rfl⟩
        · rw [e] at g2; rw [← g2]; exact ⟨_, _, _, rfl⟩
        · rw [g2]; exact ⟨_, _, _, rfl⟩
      obtain ⟨a8, z8, t8, rfl⟩ := hlv8
      have hpre : Pre h5 h8 := (((hp6.trans hp7).app _).trans hp8)
      clear ht8 hp8
      generalize (lexL [97, c, 98]).2.2.2 = e8 at g1
      generalize (lexL [97, c, 98]).2.1 = l8
      generalize (lexL [97, c, 98]).2.2.1 = c8
      conv => whnf
      have hcl := c.toNat_lt
      obtain ⟨W, hW⟩ : ∃ W, wantN c = W := ⟨_, rfl⟩
      rw [hW] at g1 g2 ⊢
      have hcx : ∀ y : UInt8, decide ((c.toNat : Int) = (y.toNat : Int)) = (c == y) := fun y => by rw [d8 c y.toNat y rfl]; rfl
      have q35 := d8 c 35 35 rfl
      have q32 := d8 c 32 32 rfl
      have q9 := d8 c 9 9 rfl
      have q10 := d8 c 10 10 rfl
      have hin : innerB c = (decide (97 ≤ (c.toNat : Int)) && decide ((c.toNat : Int) ≤ 122) || decide (48 ≤ (c.toNat : Int)) && decide ((c.toNat : Int) ≤ 57) || decide ((c.toNat : Int) = 95)) := by
        unfold innerB letterB digitB
        rw [d8 c 95 95 rfl]
      generalize hcn : (c.toNat : Int) = cn at *
      by_cases a1 : 97 ≤ cn
      · rw [decide_eq_true a1] at hin ⊢
        conv => whnf
        by_cases a2 : cn ≤ 122
        · rw [decide_eq_true a2] at hin ⊢
          replace hin : innerB c = true := hin
          conv => whnf
          refine ⟨_, _, OpV.bytesConst (e := 5) (ob := ⟨5, signsL.map byteAV, .rw⟩) rfl (uSl (E := E) rfl rfl) (uInt (E := E) rfl rfl) rfl (by decide) (hget_0 _ _) rfl, ?_⟩
          conv => whnf
          obtain ⟨G, hG⟩ : ∃ G, G = (h8 ++ [(⟨5, signsL.map byteAV, .rw⟩ : AObj)]).set h8.length (AObj.asRo ⟨5, signsL.map byteAV, .rw⟩) := ⟨_, rfl⟩
          have hGo : G[h8.length]? = some ⟨5, signsL.map byteAV, .ro⟩ := by rw [hG, hget_set (hget_0 _ _)]; rfl
          have hGp : Pre h5 G := by rw [hG]; exact (hpre.app _).set hpre.len _
          refine (Loop.cast ?_ hG.symm)
          clear hG
          refine Loop.ind (fun x : Nat × Bool => x.1 ≤ 18 ∧ x.2 = (signsL.take x.1).any (c == ·)) (fun x => [(1, .i .u8 cn), (17, .sl a8 W z8 t8), (20, .i .i64 e8), (21, .b true), (22, .b x.2), (139, .sl (some (h8.length, 0)) 18 1 false), (140, .i .i64 18), (141, .i .i64 x.1)]) (fun _ => G) (fun x => 18 - x.1) ?_ (x := (0, false)) ⟨by decide, rfl⟩ ⟨rfl, rfl, rfl, rfl, rfl, rfl, rfl, rfl, trivial⟩
          rintro ⟨j, b⟩ base ⟨j1, j2⟩ ih
          replace j1 : j ≤ 18 := j1
          replace j2 : b = (signsL.take j).any (c == ·) := j2
          by_cases hj : j < 18
          · have hx : signsL[j]? = some (signsL.getD j 0) := by
              rw [List.getD_eq_getElem?_getD, List.getElem?_eq_getElem (by show j < 18; exact hj)]; rfl
            have hta : (signsL.take (j + 1)).any (c == ·) = (b || (c == signsL.getD j 0)) := by
              rw [List.take_add_one, hx, List.any_append, ← j2]; simp
            generalize signsL.getD j 0 = x at hx hta
            conv => whnf
            rw [decide_eq_true (show (j : Int) < 18 by omega)]
            conv => whnf
            refine ⟨byteAV x, ald_leaf (E := E) rfl rfl hGo rfl ?_, ?_⟩
            · show (signsL.map byteAV)[0 + (j : Int).toNat * 1]? = _
              rw [show 0 + (j : Int).toNat * 1 = j by simp, List.getElem?_map, hx]; rfl
            conv => whnf
            refine ⟨by omega, show (j : Int) < 18 by omega, ?_⟩
            cases b with
            | true =>
              conv => whnf
              refine ih (j + 1, true) _ ⟨by show j + 1 ≤ 18; omega, by rw [hta]; rfl⟩ (by show 18 - (j + 1) < 18 - j; omega) ⟨rfl, rfl, rfl, rfl, rfl, rfl, rfl, ?_, trivial⟩
              show AV.i .i64 (IntKind.i64.wrap ((j : Int) + 1)) = .i .i64 ((j + 1 : Nat) : Int)
              rw [wrap64_id (by omega) (by omega)]; simp
            | false =>
              conv => whnf
              refine ih (j + 1, c == x) _ ⟨by show j + 1 ≤ 18; omega, by rw [hta]; rfl⟩ (by show 18 - (j + 1) < 18 - j; omega) ⟨rfl, rfl, rfl, rfl, ?_, rfl, rfl, ?_, trivial⟩
              · show AV.b (decide (cn = (x.toNat : Int))) = _
                rw [hcx]
              show AV.i .i64 (IntKind.i64.wrap ((j : Int) + 1)) = .i .i64 ((j + 1 : Nat) : Int)
              rw [wrap64_id (by omega) (by omega)]; simp
          · have hj18 : j = 18 := by omega
            subst hj18
            replace j2 : b = signsL.any (c == ·) := j2
            conv => whnf
            have hW2 : W = 2 := by rw [← hW]; unfold wantN; rw [if_pos (.inl hin)]
            have he8 : e8 = 0 := by rw [hW2] at g1; simpa using g1
            rw [decide_eq_true (show (e8 : Int) = 0 by omega), decide_eq_true (show (0 : Int) < 2 by decide), show (true == true) = true from rfl]
            conv => whnf
            rw [decide_eq_true (show (W : Int) = 2 by omega)]
            conv => whnf
            refine (wakes_spec _).mono ?_
            rintro r h9 ⟨rfl, rfl⟩
            conv => whnf
            exact ⟨hGp, rfl⟩
        · rw [decide_eq_false a2] at hin ⊢
          conv => whnf
          rw [decide_eq_true (show 48 ≤ cn by omega)] at hin ⊢
          conv => whnf
          rw [decide_eq_false (show ¬ cn ≤ 57 by omega)] at hin ⊢
          conv => whnf
          rw [decide_eq_false (show ¬ cn = 95 by omega)] at hin ⊢
          replace hin : innerB c = false := hin
          refine ⟨_, _, OpV.bytesConst (e := 5) (ob := ⟨5, signsL.map byteAV, .rw⟩) rfl (uSl (E := E) rfl rfl) (uInt (E := E) rfl rfl) rfl (by decide) (hget_0 _ _) rfl, ?_⟩
          conv => whnf
          obtain ⟨G, hG⟩ : ∃ G, G = (h8 ++ [(⟨5, signsL.map byteAV, .rw⟩ : AObj)]).set h8.length (AObj.asRo ⟨5, signsL.map byteAV, .rw⟩) := ⟨_, rfl⟩
          have hGo : G[h8.length]? = some ⟨5, signsL.map byteAV, .ro⟩ := by rw [hG, hget_set (hget_0 _ _)]; rfl
          have hGp : Pre h5 G := by rw [hG]; exact (hpre.app _).set hpre.len _
          refine (Loop.cast ?_ hG.symm)
          clear hG
          refine Loop.ind (fun x : Nat × Bool => x.1 ≤ 18 ∧ x.2 = (signsL.take x.1).any (c == ·)) (fun x => [(1, .i .u8 cn), (17, .sl a8 W z8 t8), (20, .i .i64 e8), (21, .b false), (22, .b x.2), (139, .sl (some (h8.length, 0)) 18 1 false), (140, .i .i64 18), (141, .i .i64 x.1)]) (fun _ => G) (fun x => 18 - x.1) ?_ (x := (0, false)) ⟨by decide, rfl⟩ ⟨rfl, rfl, rfl, rfl, rfl, rfl, rfl, rfl, trivial⟩
          rintro ⟨j, b⟩ base ⟨j1, j2⟩ ih
          replace j1 : j ≤ 18 := j1
          replace j2 : b = (signsL.take j).any (c == ·) := j2
          by_cases hj : j < 18
          · have hx : signsL[j]? = some (signsL.getD j 0) := by
              rw [List.getD_eq_getElem?_getD, List.getElem?_eq_getElem (by show j < 18; exact hj)]; rfl
            have hta : (signsL.take (j + 1)).any (c == ·) = (b || (c == signsL.getD j 0)) := by
              rw [List.take_add_one, hx, List.any_append, ← j2]; simp
            generalize signsL.getD j 0 = x at hx hta
            conv => whnf
            rw [decide_eq_true (show (j : Int) < 18 by omega)]
            conv => whnf
            refine ⟨byteAV x, ald_leaf (E := E) rfl rfl hGo rfl ?_, ?_⟩
            · show (signsL.map byteAV)[0 + (j : Int).toNat * 1]? = _
              rw [show 0 + (j : Int).toNat * 1 = j by simp, List.getElem?_map, hx]; rfl
            conv => whnf
            refine ⟨by omega, show (j : Int) < 18 by omega, ?_⟩
            cases b with
            | true =>
              conv => whnf
              refine ih (j + 1, true) _ ⟨by show j + 1 ≤ 18; omega, by rw [hta]; rfl⟩ (by show 18 - (j + 1) < 18 - j; omega) ⟨rfl, rfl, rfl, rfl, rfl, rfl, rfl, ?_, trivial⟩
              show AV.i .i64 (IntKind.i64.wrap ((j : Int) + 1)) = .i .i64 ((j + 1 : Nat) : Int)
              rw [wrap64_id (by omega) (by omega)]; simp
            | false =>
              conv => whnf
              refine ih (j + 1, c == x) _ ⟨by show j + 1 ≤ 18; omega, by rw [hta]; rfl⟩ (by show 18 - (j + 1) < 18 - j; omega) ⟨rfl, rfl, rfl, rfl, ?_, rfl, rfl, ?_, trivial⟩
              · show AV.b (decide (cn = (x.toNat : Int))) = _
                rw [hcx]
              show AV.i .i64 (IntKind.i64.wrap ((j : Int) + 1)) = .i .i64 ((j + 1 : Nat) : Int)
              rw [wrap64_id (by omega) (by omega)]; simp
          · have hj18 : j = 18 := by omega
            subst hj18
            replace j2 : b = signsL.any (c == ·) := j2
            conv => whnf
            rw [q35]
            cases r35 : decide (c = 35) with
            | true =>
              have hW2 : W = 2 := by rw [← hW]; unfold wantN; rw [if_pos (.inr (of_decide_eq_true r35))]
              conv => whnf
              have he8 : e8 = 0 := by rw [hW2] at g1; simpa using g1
              rw [decide_eq_true (show (e8 : Int) = 0 by omega), decide_eq_true (show (0 : Int) < 2 by decide), show (true == true) = true from rfl]
              conv => whnf
              rw [decide_eq_true (show (W : Int) = 2 by omega)]
              conv => whnf
              refine (wakes_spec _).mono ?_
              rintro r h9 ⟨rfl, rfl⟩
              conv => whnf
              exact ⟨hGp, rfl⟩
            | false =>
            conv => whnf
            have n35 : ¬ (innerB c = true ∨ c = 35) := fun e => by
              rcases e with e | e
              · rw [hin] at e; cases e
              · exact of_decide_eq_false r35 e
            rw [q32]
            cases r32 : decide (c = 32) with
            | true =>
              have hW2 : W = 3 := by rw [← hW]; unfold wantN; rw [if_neg n35, if_pos (.inl (of_decide_eq_true r32))]
              conv => whnf
              have he8 : e8 = 0 := by rw [hW2] at g1; simpa using g1
              rw [decide_eq_true (show (e8 : Int) = 0 by omega), decide_eq_true (show (0 : Int) < 3 by decide), show (true == true) = true from rfl]
              conv => whnf
              rw [decide_eq_true (show (W : Int) = 3 by omega)]
              conv => whnf
              refine (wakes_spec _).mono ?_
              rintro r h9 ⟨rfl, rfl⟩
              conv => whnf
              exact ⟨hGp, rfl⟩
            | false =>
            conv => whnf
            rw [q9]
            cases r9 : decide (c = 9) with
            | true =>
              have hW2 : W = 3 := by rw [← hW]; unfold wantN; rw [if_neg n35, if_pos (.inr (.inl (of_decide_eq_true r9)))]
              conv => whnf
              have he8 : e8 = 0 := by rw [hW2] at g1; simpa using g1
              rw [decide_eq_true (show (e8 : Int) = 0 by omega), decide_eq_true (show (0 : Int) < 3 by decide), show (true == true) = true from rfl]
              conv => whnf
              rw [decide_eq_true (show (W : Int) = 3 by omega)]
              conv => whnf
              refine (wakes_spec _).mono ?_
              rintro r h9 ⟨rfl, rfl⟩
              conv => whnf
              exact ⟨hGp, rfl⟩
            | false =>
            conv => whnf
            rw [q10]
            cases r10 : decide (c = 10) with
            | true =>
              have hW2 : W = 3 := by rw [← hW]; unfold wantN; rw [if_neg n35, if_pos (.inr (.inr (of_decide_eq_true r10)))]
              conv => whnf
              have he8 : e8 = 0 := by rw [hW2] at g1; simpa using g1
              rw [decide_eq_true (show (e8 : Int) = 0 by omega), decide_eq_true (show (0 : Int) < 3 by decide), show (true == true) = true from rfl]
              conv => whnf
              rw [decide_eq_true (show (W : Int) = 3 by omega)]
              conv => whnf
              refine (wakes_spec _).mono ?_
              rintro r h9 ⟨rfl, rfl⟩
              conv => whnf
              exact ⟨hGp, rfl⟩
            | false =>
            conv => whnf
            have n3 : ¬ (c = 32 ∨ c = 9 ∨ c = 10) := fun e => by
              rcases e with e | e | e
              · exact of_decide_eq_false r32 e
              · exact of_decide_eq_false r9 e
              · exact of_decide_eq_false r10 e
            cases b with
            | true =>
              have hW2 : W = 4 := by rw [← hW]; unfold wantN; rw [if_neg n35, if_neg n3, if_pos j2.symm]
              conv => whnf
              have he8 : e8 = 0 := by rw [hW2] at g1; simpa using g1
              rw [decide_eq_true (show (e8 : Int) = 0 by omega), decide_eq_true (show (0 : Int) < 4 by decide), show (true == true) = true from rfl]
              conv => whnf
              rw [decide_eq_true (show (W : Int) = 4 by omega)]
              conv => whnf
              refine (wakes_spec _).mono ?_
              rintro r h9 ⟨rfl, rfl⟩
              conv => whnf
              exact ⟨hGp, rfl⟩
            | false =>
              have hW2 : W = 0 := by rw [← hW]; unfold wantN; rw [if_neg n35, if_neg n3, if_neg (by rw [← j2]; decide)]
              conv => whnf
              have he8 : e8 ≠ 0 := by rw [hW2] at g1; simpa using g1
              rw [decide_eq_false (show ¬ (e8 : Int) = 0 by omega), decide_eq_false (show ¬ (0 : Int) < 0 by decide), show (false == false) = true from rfl]
              conv => whnf
              rw [decide_eq_true (show (W : Int) = 0 by omega)]
              conv => whnf
              refine (wakes_spec _).mono ?_
              rintro r h9 ⟨rfl, rfl⟩
              conv => whnf
              exact ⟨hGp, rfl⟩
      · rw [decide_eq_false a1] at hin ⊢
        conv => whnf
        by_cases a3 : 48 ≤ cn
        · rw [decide_eq_true a3] at hin ⊢
          conv => whnf
          by_cases a4 : cn ≤ 57
          · rw [decide_eq_true a4] at hin ⊢
            conv => whnf
            replace hin : innerB c = true := hin
            refine ⟨_, _, OpV.bytesConst (e := 5) (ob := ⟨5, signsL.map byteAV, .rw⟩) rfl (uSl (E := E) rfl rfl) (uInt (E := E) rfl rfl) rfl (by decide) (hget_0 _ _) rfl, ?_⟩
            conv => whnf
            obtain ⟨G, hG⟩ : ∃ G, G = (h8 ++ [(⟨5, signsL.map byteAV, .rw⟩ : AObj)]).set h8.length (AObj.asRo ⟨5, signsL.map byteAV, .rw⟩) := ⟨_, rfl⟩
            have hGo : G[h8.length]? = some ⟨5, signsL.map byteAV, .ro⟩ := by rw [hG, hget_set (hget_0 _ _)]; rfl
            have hGp : Pre h5 G := by rw [hG]; exact (hpre.app _).set hpre.len _
            refine (Loop.cast ?_ hG.symm)
            clear hG
            refine Loop.ind (fun x : Nat × Bool => x.1 ≤ 18 ∧ x.2 = (signsL.take x.1).any (c == ·)) (fun x => [(1, .i .u8 cn), (17, .sl a8 W z8 t8), (20, .i .i64 e8), (21, .b true), (22, .b x.2), (139, .sl (some (h8.length, 0)) 18 1 false), (140, .i .i64 18), (141, .i .i64 x.1)]) (fun _ => G) (fun x => 18 - x.1) ?_ (x := (0, false)) ⟨by decide, rfl⟩ ⟨rfl, rfl, rfl, rfl, rfl, rfl, rfl, rfl, trivial⟩
            rintro ⟨j, b⟩ base ⟨j1, j2⟩ ih
            replace j1 : j ≤ 18 := j1
            replace j2 : b = (signsL.take j).any (c == ·) := j2
            by_cases hj : j < 18
            · have hx : signsL[j]? = some (signsL.getD j 0) := by
                rw [List.getD_eq_getElem?_getD, List.getElem?_eq_getElem (by show j < 18; exact hj)]; rfl
              have hta : (signsL.take (j + 1)).any (c == ·) = (b || (c == signsL.getD j 0)) := by
                rw [List.take_add_one, hx, List.any_append, ← j2]; simp
              generalize signsL.getD j 0 = x at hx hta
              conv => whnf
              rw [decide_eq_true (show (j : Int) < 18 by omega)]
              conv => whnf
              refine ⟨byteAV x, ald_leaf (E := E) rfl rfl hGo rfl ?_, ?_⟩
              · show (signsL.map byteAV)[0 + (j : Int).toNat * 1]? = _
                rw [show 0 + (j : Int).toNat * 1 = j by simp, List.getElem?_map, hx]; rfl
              conv => whnf
              refine ⟨by omega, show (j : Int) < 18 by omega, ?_⟩
              cases b with
              | true =>
                conv => whnf
                refine ih (j + 1, true) _ ⟨by show j + 1 ≤ 18; omega, by rw [hta]; rfl⟩ (by show 18 - (j + 1) < 18 - j; omega) ⟨rfl, rfl, rfl, rfl, rfl, rfl, rfl, ?_, trivial⟩
                show AV.i .i64 (IntKind.i64.wrap ((j : Int) + 1)) = .i .i64 ((j + 1 : Nat) : Int)
                rw [wrap64_id (by omega) (by omega)]; simp
              | false =>
                conv => whnf
                refine ih (j + 1, c == x) _ ⟨by show j + 1 ≤ 18; omega, by rw [hta]; rfl⟩ (by show 18 - (j + 1) < 18 - j; omega) ⟨rfl, rfl, rfl, rfl, ?_, rfl, rfl, ?_, trivial⟩
                · show AV.b (decide (cn = (x.toNat : Int))) = _
                  rw [hcx]
                show AV.i .i64 (IntKind.i64.wrap ((j : Int) + 1)) = .i .i64 ((j + 1 : Nat) : Int)
                rw [wrap64_id (by omega) (by omega)]; simp
            · have hj18 : j = 18 := by omega
              subst hj18
              replace j2 : b = signsL.any (c == ·) := j2
              conv => whnf
              have hW2 : W = 2 := by rw [← hW]; unfold wantN; rw [if_pos (.inl hin)]
              have he8 : e8 = 0 := by rw [hW2] at g1; simpa using g1
              rw [decide_eq_true (show (e8 : Int) = 0 by omega), decide_eq_true (show (0 : Int) < 2 by decide), show (true == true) = true from rfl]
              conv => whnf
              rw [decide_eq_true (show (W : Int) = 2 by omega)]
              conv => whnf
              refine (wakes_spec _).mono ?_
              rintro r h9 ⟨rfl, rfl⟩
              conv => whnf
              exact ⟨hGp, rfl⟩
          · rw [decide_eq_false a4] at hin ⊢
            conv => whnf
            by_cases a5 : cn = 95
            · rw [decide_eq_true a5] at hin ⊢
              replace hin : innerB c = true := hin
              refine ⟨_, _, OpV.bytesConst (e := 5) (ob := ⟨5, signsL.map byteAV, .rw⟩) rfl (uSl (E := E) rfl rfl) (uInt (E := E) rfl rfl) rfl (by decide) (hget_0 _ _) rfl, ?_⟩
              conv => whnf
              obtain ⟨G, hG⟩ : ∃ G, G = (h8 ++ [(⟨5, signsL.map byteAV, .rw⟩ : AObj)]).set h8.length (AObj.asRo ⟨5, signsL.map byteAV, .rw⟩) := ⟨_, rfl⟩
              have hGo : G[h8.length]? = some ⟨5, signsL.map byteAV, .ro⟩ := by rw [hG, hget_set (hget_0 _ _)]; rfl
              have hGp : Pre h5 G := by rw [hG]; exact (hpre.app _).set hpre.len _
              refine (Loop.cast ?_ hG.symm)
              clear hG
              refine Loop.ind (fun x : Nat × Bool => x.1 ≤ 18 ∧ x.2 = (signsL.take x.1).any (c == ·)) (fun x => [(1, .i .u8 cn), (17, .sl a8 W z8 t8), (20, .i .i64 e8), (21, .b true), (22, .b x.2), (139, .sl (some (h8.length, 0)) 18 1 false), (140, .i .i64 18), (141, .i .i64 x.1)]) (fun _ => G) (fun x => 18 - x.1) ?_ (x := (0, false)) ⟨by decide, rfl⟩ ⟨rfl, rfl, rfl, rfl, rfl, rfl, rfl, rfl, trivial⟩
              rintro ⟨j, b⟩ base ⟨j1, j2⟩ ih
              replace j1 : j ≤ 18 := j1
              replace j2 : b = (signsL.take j).any (c == ·) := j2
              by_cases hj : j < 18
              · have hx : signsL[j]? = some (signsL.getD j 0) := by
                  rw [List.getD_eq_getElem?_getD, List.getElem?_eq_getElem (by show j < 18; exact hj)]; rfl
                have hta : (signsL.take (j + 1)).any (c == ·) = (b || (c == signsL.getD j 0)) := by
                  rw [List.take_add_one, hx, List.any_append, ← j2]; simp
                generalize signsL.getD j 0 = x at hx hta
                conv => whnf
                rw [decide_eq_true (show (j : Int) < 18 by omega)]
                conv => whnf
                refine ⟨byteAV x, ald_leaf (E := E) rfl rfl hGo rfl ?_, ?_⟩
                · show (signsL.map byteAV)[0 + (j : Int).toNat * 1]? = _
                  rw [show 0 + (j : Int).toNat * 1 = j by simp, List.getElem?_map, hx]; rfl
                conv => whnf
                refine ⟨by omega, show (j : Int) < 18 by omega, ?_⟩
                cases b with
                | true =>
                  conv => whnf
                  refine ih (j + 1, true) _ ⟨by show j + 1 ≤ 18; omega, by rw [hta]; rfl⟩ (by show 18 - (j + 1) < 18 - j; omega) ⟨rfl, rfl, rfl, rfl, rfl, rfl, rfl, ?_, trivial⟩
                  show AV.i .i64 (IntKind.i64.wrap ((j : Int) + 1)) = .i .i64 ((j + 1 : Nat) : Int)
                  rw [wrap64_id (by omega) (by omega)]; simp
                | false =>
                  conv => whnf
                  refine ih (j + 1, c == x) _ ⟨by show j + 1 ≤ 18; omega, by rw [hta]; rfl⟩ (by show 18 - (j + 1) < 18 - j; omega) ⟨rfl, rfl, rfl, rfl, ?_, rfl, rfl, ?_, trivial⟩
                  · show AV.b (decide (cn = (x.toNat : Int))) = _
                    rw [hcx]
                  show AV.i .i64 (IntKind.i64.wrap ((j : Int) + 1)) = .i .i64 ((j + 1 : Nat) : Int)
                  rw [wrap64_id (by omega) (by omega)]; simp
              · have hj18 : j = 18 := by omega
                subst hj18
                replace j2 : b = signsL.any (c == ·) := j2
                conv => whnf
                have hW2 : W = 2 := by rw [← hW]; unfold wantN; rw [if_pos (.inl hin)]
                have he8 : e8 = 0 := by rw [hW2] at g1; simpa using g1
                rw [decide_eq_true (show (e8 : Int) = 0 by omega), decide_eq_true (show (0 : Int) < 2 by decide), show (true == true) = true from rfl]
                conv => whnf
                rw [decide_eq_true (show (W : Int) = 2 by omega)]
                conv => whnf
                refine (wakes_spec _).mono ?_
                rintro r h9 ⟨rfl, rfl⟩
                conv => whnf
                exact ⟨hGp, rfl⟩
            · rw [decide_eq_false a5] at hin ⊢
              replace hin : innerB c = false := hin
              refine ⟨_, _, OpV.bytesConst (e := 5) (ob := ⟨5, signsL.map byteAV, .rw⟩) rfl (uSl (E := E) rfl rfl) (uInt (E := E) rfl rfl) rfl (by decide) (hget_0 _ _) rfl, ?_⟩
              conv => whnf
              obtain ⟨G, hG⟩ : ∃ G, G = (h8 ++ [(⟨5, signsL.map byteAV, .rw⟩ : AObj)]).set h8.length (AObj.asRo ⟨5, signsL.map byteAV, .rw⟩) := ⟨_, rfl⟩
              have hGo : G[h8.length]? = some ⟨5, signsL.map byteAV, .ro⟩ := by rw [hG, hget_set (hget_0 _ _)]; rfl
              have hGp : Pre h5 G := by rw [hG]; exact (hpre.app _).set hpre.len _
              refine (Loop.cast ?_ hG.symm)
              clear hG
              refine Loop.ind (fun x : Nat × Bool => x.1 ≤ 18 ∧ x.2 = (signsL.take x.1).any (c == ·)) (fun x => [(1, .i .u8 cn), (17, .sl a8 W z8 t8), (20, .i .i64 e8), (21, .b false), (22, .b x.2), (139, .sl (some (h8.length, 0)) 18 1 false), (140, .i .i64 18), (141, .i .i64 x.1)]) (fun _ => G) (fun x => 18 - x.1) ?_ (x := (0, false)) ⟨by decide, rfl⟩ ⟨rfl, rfl, rfl, rfl, rfl, rfl, rfl, rfl, trivial⟩
              rintro ⟨j, b⟩ base ⟨j1, j2⟩ ih
              replace j1 : j ≤ 18 := j1
              replace j2 : b = (signsL.take j).any (c == ·) := j2
              by_cases hj : j < 18
              · have hx : signsL[j]? = some (signsL.getD j 0) := by
                  rw [List.getD_eq_getElem?_getD, List.getElem?_eq_getElem (by show j < 18; exact hj)]; rfl
                have hta : (signsL.take (j + 1)).any (c == ·) = (b || (c == signsL.getD j 0)) := by
                  rw [List.take_add_one, hx, List.any_append, ← j2]; simp
                generalize signsL.getD j 0 = x at hx hta
                conv => whnf
                rw [decide_eq_true (show (j : Int) < 18 by omega)]
                conv => whnf
                refine ⟨byteAV x, ald_leaf (E := E) rfl rfl hGo rfl ?_, ?_⟩
                · show (signsL.map byteAV)[0 + (j : Int).toNat * 1]? = _
                  rw [show 0 + (j : Int).toNat * 1 = j by simp, List.getElem?_map, hx]; rfl
                conv => whnf
                refine ⟨by omega, show (j : Int) < 18 by omega, ?_⟩
                cases b with
                | true =>
                  conv => whnf
                  refine ih (j + 1, true) _ ⟨by show j + 1 ≤ 18; omega, by rw [hta]; rfl⟩ (by show 18 - (j + 1) < 18 - j; omega) ⟨rfl, rfl, rfl, rfl, rfl, rfl, rfl, ?_, trivial⟩
                  show AV.i .i64 (IntKind.i64.wrap ((j : Int) + 1)) = .i .i64 ((j + 1 : Nat) : Int)
                  rw [wrap64_id (by omega) (by omega)]; simp
                | false =>
                  conv => whnf
                  refine ih (j + 1, c == x) _ ⟨by show j + 1 ≤ 18; omega, by rw [hta]; rfl⟩ (by show 18 - (j + 1) < 18 - j; omega) ⟨rfl, rfl, rfl, rfl, ?_, rfl, rfl, ?_, trivial⟩
                  · show AV.b (decide (cn = (x.toNat : Int))) = _
                    rw [hcx]
                  show AV.i .i64 (IntKind.i64.wrap ((j : Int) + 1)) = .i .i64 ((j + 1 : Nat) : Int)
                  rw [wrap64_id (by omega) (by omega)]; simp
              · have hj18 : j = 18 := by omega
                subst hj18
                replace j2 : b = signsL.any (c == ·) := j2
                conv => whnf
                rw [q35]
                cases r35 : decide (c = 35) with
                | true =>
                  have hW2 : W = 2 := by rw [← hW]; unfold wantN; rw [if_pos (.inr (of_decide_eq_true r35))]
                  conv => whnf
                  have he8 : e8 = 0 := by rw [hW2] at g1; simpa using g1
                  rw [decide_eq_true (show (e8 : Int) = 0 by omega), decide_eq_true (show (0 : Int) < 2 by decide), show (true == true) = true from rfl]
                  conv => whnf
                  rw [decide_eq_true (show (W : Int) = 2 by omega)]
                  conv => whnf
                  refine (wakes_spec _).mono ?_
                  rintro r h9 ⟨rfl, rfl⟩
                  conv => whnf
                  exact ⟨hGp, rfl⟩
                | false =>
                conv => whnf
                have n35 : ¬ (innerB c = true ∨ c = 35) := fun e => by
                  rcases e with e | e
                  · rw [hin] at e; cases e
                  · exact of_decide_eq_false r35 e
                rw [q32]
                cases r32 : decide (c = 32) with
                | true =>
                  have hW2 : W = 3 := by rw [← hW]; unfold wantN; rw [if_neg n35, if_pos (.inl (of_decide_eq_true r32))]
                  conv => whnf
                  have he8 : e8 = 0 := by rw [hW2] at g1; simpa using g1
                  rw [decide_eq_true (show (e8 : Int) = 0 by omega), decide_eq_true (show (0 : Int) < 3 by decide), show (true == true) = true from rfl]
                  conv => whnf
                  rw [decide_eq_true (show (W : Int) = 3 by omega)]
                  conv => whnf
                  refine (wakes_spec _).mono ?_
                  rintro r h9 ⟨rfl, rfl⟩
                  conv => whnf
                  exact ⟨hGp, rfl⟩
                | false =>
                conv => whnf
                rw [q9]
                cases r9 : decide (c = 9) with
                | true =>
                  have hW2 : W = 3 := by rw [← hW]; unfold wantN; rw [if_neg n35, if_pos (.inr (.inl (of_decide_eq_true r9)))]
                  conv => whnf
                  have he8 : e8 = 0 := by rw [hW2] at g1; simpa using g1
                  rw [decide_eq_true (show (e8 : Int) = 0 by omega), decide_eq_true (show (0 : Int) < 3 by decide), show (true == true) = true from rfl]
                  conv => whnf
                  rw [decide_eq_true (show (W : Int) = 3 by omega)]
                  conv => whnf
                  refine (wakes_spec _).mono ?_
                  rintro r h9 ⟨rfl, rfl⟩
                  conv => whnf
                  exact ⟨hGp, rfl⟩
                | false =>
                conv => whnf
                rw [q10]
                cases r10 : decide (c = 10) with
                | true =>
                  have hW2 : W = 3 := by rw [← hW]; unfold wantN; rw [if_neg n35, if_pos (.inr (.inr (of_decide_eq_true r10)))]
                  conv => whnf
                  have he8 : e8 = 0 := by rw [hW2] at g1; simpa using g1
                  rw [decide_eq_true (show (e8 : Int) = 0 by omega), decide_eq_true (show (0 : Int) < 3 by decide), show (true == true) = true from rfl]
                  conv => whnf
                  rw [decide_eq_true (show (W : Int) = 3 by omega)]
                  conv => whnf
                  refine (wakes_spec _).mono ?_
                  rintro r h9 ⟨rfl, rfl⟩
                  conv => whnf
                  exact ⟨hGp, rfl⟩
                | false =>
                conv => whnf
                have n3 : ¬ (c = 32 ∨ c = 9 ∨ c = 10) := fun e => by
                  rcases e with e | e | e
                  · exact of_decide_eq_false r32 e
                  · exact of_decide_eq_false r9 e
                  · exact of_decide_eq_false r10 e
                cases b with
                | true =>
                  have hW2 : W = 4 := by rw [← hW]; unfold wantN; rw [if_neg n35, if_neg n3, if_pos j2.symm]
                  conv => whnf
                  have he8 : e8 = 0 := by rw [hW2] at g1; simpa using g1
                  rw [decide_eq_true (show (e8 : Int) = 0 by omega), decide_eq_true (show (0 : Int) < 4 by decide), show (true == true) = true from rfl]
                  conv => whnf
                  rw [decide_eq_true (show (W : Int) = 4 by omega)]
                  conv => whnf
                  refine (wakes_spec _).mono ?_
                  rintro r h9 ⟨rfl, rfl⟩
                  conv => whnf
                  exact ⟨hGp, rfl⟩
                | false =>
                  have hW2 : W = 0 := by rw [← hW]; unfold wantN; rw [if_neg n35, if_neg n3, if_neg (by rw [← j2]; decide)]
                  conv => whnf
                  have he8 : e8 ≠ 0 := by rw [hW2] at g1; simpa using g1
                  rw [decide_eq_false (show ¬ (e8 : Int) = 0 by omega), decide_eq_false (show ¬ (0 : Int) < 0 by decide), show (false == false) = true from rfl]
                  conv => whnf
                  rw [decide_eq_true (show (W : Int) = 0 by omega)]
                  conv => whnf
                  refine (wakes_spec _).mono ?_
                  rintro r h9 ⟨rfl, rfl⟩
                  conv => whnf
                  exact ⟨hGp, rfl⟩
        · rw [decide_eq_false a3] at hin ⊢
          conv => whnf
          rw [decide_eq_false (show ¬ cn = 95 by omega)] at hin ⊢
          replace hin : innerB c = false := hin
          refine ⟨_, _, OpV.bytesConst (e := 5) (ob := ⟨5, signsL.map byteAV, .rw⟩) rfl (uSl (E := E) rfl rfl) (uInt (E := E) rfl rfl) rfl (by decide) (hget_0 _ _) rfl, ?_⟩
          conv => whnf
          obtain ⟨G, hG⟩ : ∃ G, G = (h8 ++ [(⟨5, signsL.map byteAV, .rw⟩ : AObj)]).set h8.length (AObj.asRo ⟨5, signsL.map byteAV, .rw⟩) := ⟨_, rfl⟩
          have hGo : G[h8.length]? = some ⟨5, signsL.map byteAV, .ro⟩ := by rw [hG, hget_set (hget_0 _ _)]; rfl
          have hGp : Pre h5 G := by rw [hG]; exact (hpre.app _).set hpre.len _
          refine (Loop.cast ?_ hG.symm)
          clear hG
          refine Loop.ind (fun x : Nat × Bool => x.1 ≤ 18 ∧ x.2 = (signsL.take x.1).any (c == ·)) (fun x => [(1, .i .u8 cn), (17, .sl a8 W z8 t8), (20, .i .i64 e8), (21, .b false), (22, .b x.2), (139, .sl (some (h8.length, 0)) 18 1 false), (140, .i .i64 18), (141, .i .i64 x.1)]) (fun _ => G) (fun x => 18 - x.1) ?_ (x := (0, false)) ⟨by decide, rfl⟩ ⟨rfl, rfl, rfl, rfl, rfl, rfl, rfl, rfl, trivial⟩
          rintro ⟨j, b⟩ base ⟨j1, j2⟩ ih
          replace j1 : j ≤ 18 := j1
          replace j2 : b = (signsL.take j).any (c == ·) := j2
          by_cases hj : j < 18
          · have hx : signsL[j]? = some (signsL.getD j 0) := by
              rw [List.getD_eq_getElem?_getD, List.getElem?_eq_getElem (by show j < 18; exact hj)]; rfl
            have hta : (signsL.take (j + 1)).any (c == ·) = (b || (c == signsL.getD j 0)) := by
              rw [List.take_add_one, hx, List.any_append, ← j2]; simp
            generalize signsL.getD j 0 = x at hx hta
            conv => whnf
            rw [decide_eq_true (show (j : Int) < 18 by omega)]
            conv => whnf
            refine ⟨byteAV x, ald_leaf (E := E) rfl rfl hGo rfl ?_, ?_⟩
            · show (signsL.map byteAV)[0 + (j : Int).toNat * 1]? = _
              rw [show 0 + (j : Int).toNat * 1 = j by simp, List.getElem?_map, hx]; rfl
            conv => whnf
            refine ⟨by omega, show (j : Int) < 18 by omega, ?_⟩
            cases b with
            | true =>
              conv => whnf
              refine ih (j + 1, true) _ ⟨by show j + 1 ≤ 18; omega, by rw [hta]; rfl⟩ (by show 18 - (j + 1) < 18 - j; omega) ⟨rfl, rfl, rfl, rfl, rfl, rfl, rfl, ?_, trivial⟩
              show AV.i .i64 (IntKind.i64.wrap ((j : Int) + 1)) = .i .i64 ((j + 1 : Nat) : Int)
              rw [wrap64_id (by omega) (by omega)]; simp
            | false =>
              conv => whnf
              refine ih (j + 1, c == x) _ ⟨by show j + 1 ≤ 18; omega, by rw [hta]; rfl⟩ (by show 18 - (j + 1) < 18 - j; omega) ⟨rfl, rfl, rfl, rfl, ?_, rfl, rfl, ?_, trivial⟩
              · show AV.b (decide (cn = (x.toNat : Int))) = _
                rw [hcx]
              show AV.i .i64 (IntKind.i64.wrap ((j : Int) + 1)) = .i .i64 ((j + 1 : Nat) : Int)
              rw [wrap64_id (by omega) (by omega)]; simp
          · have hj18 : j = 18 := by omega
            subst hj18
            replace j2 : b = signsL.any (c == ·) := j2
            conv => whnf
            rw [q35]
            cases r35 : decide (c = 35) with
            | true =>
              have hW2 : W = 2 := by rw [← hW]; unfold wantN; rw [if_pos (.inr (of_decide_eq_true r35))]
              conv => whnf
              have he8 : e8 = 0 := by rw [hW2] at g1; simpa using g1
              rw [decide_eq_true (show (e8 : Int) = 0 by omega), decide_eq_true (show (0 : Int) < 2 by decide), show (true == true) = true from rfl]
              conv => whnf
              rw [decide_eq_true (show (W : Int) = 2 by omega)]
              conv => whnf
              refine (wakes_spec _).mono ?_
              rintro r h9 ⟨rfl, rfl⟩
              conv => whnf
              exact ⟨hGp, rfl⟩
            | false =>
            conv => whnf
            have n35 : ¬ (innerB c = true ∨ c = 35) := fun e => by
              rcases e with e | e
              · rw [hin] at e; cases e
              · exact of_decide_eq_false r35 e
            rw [q32]
            cases r32 : decide (c = 32) with
            | true =>
              have hW2 : W = 3 := by rw [← hW]; unfold wantN; rw [if_neg n35, if_pos (.inl (of_decide_eq_true r32))]
              conv => whnf
              have he8 : e8 = 0 := by rw [hW2] at g1; simpa using g1
              rw [decide_eq_true (show (e8 : Int) = 0 by omega), decide_eq_true (show (0 : Int) < 3 by decide), show (true == true) = true from rfl]
              conv => whnf
              rw [decide_eq_true (show (W : Int) = 3 by omega)]
              conv => whnf
              refine (wakes_spec _).mono ?_
              rintro r h9 ⟨rfl, rfl⟩
              conv => whnf
              exact ⟨hGp, rfl⟩
            | false =>
            conv => whnf
            rw [q9]
            cases r9 : decide (c = 9) with
            | true =>
              have hW2 : W = 3 := by rw [← hW]; unfold wantN; rw [if_neg n35, if_pos (.inr (.inl (of_decide_eq_true r9)))]
              conv => whnf
              have he8 : e8 = 0 := by rw [hW2] at g1; simpa using g1
              rw [decide_eq_true (show (e8 : Int) = 0 by omega), decide_eq_true (show (0 : Int) < 3 by decide), show (true == true) = true from rfl]
              conv => whnf
              rw [decide_eq_true (show (W : Int) = 3 by omega)]
              conv => whnf
              refine (wakes_spec _).mono ?_
              rintro r h9 ⟨rfl, rfl⟩
              conv => whnf
              exact ⟨hGp, rfl⟩
            | false =>
            conv => whnf
            rw [q10]
            cases r10 : decide (c = 10) with
            | true =>
              have hW2 : W = 3 := by rw [← hW]; unfold wantN; rw [if_neg n35, if_pos (.inr (.inr (of_decide_eq_true r10)))]
              conv => whnf
              have he8 : e8 = 0 := by rw [hW2] at g1; simpa using g1
              rw [decide_eq_true (show (e8 : Int) = 0 by omega), decide_eq_true (show (0 : Int) < 3 by decide), show (true == true) = true from rfl]
              conv => whnf
              rw [decide_eq_true (show (W : Int) = 3 by omega)]
              conv => whnf
              refine (wakes_spec _).mono ?_
              rintro r h9 ⟨rfl, rfl⟩
              conv => whnf
              exact ⟨hGp, rfl⟩
            | false =>
            conv => whnf
            have n3 : ¬ (c = 32 ∨ c = 9 ∨ c = 10) := fun e => by
              rcases e with e | e | e
              · exact of_decide_eq_false r32 e
              · exact of_decide_eq_false r9 e
              · exact of_decide_eq_false r10 e
            cases b with
            | true =>
              have hW2 : W = 4 := by rw [← hW]; unfold wantN; rw [if_neg n35, if_neg n3, if_pos j2.symm]
              conv => whnf
              have he8 : e8 = 0 := by rw [hW2] at g1; simpa using g1
              rw [decide_eq_true (show (e8 : Int) = 0 by omega), decide_eq_true (show (0 : Int) < 4 by decide), show (true == true) = true from rfl]
              conv => whnf
              rw [decide_eq_true (show (W : Int) = 4 by omega)]
              conv => whnf
              refine (wakes_spec _).mono ?_
              rintro r h9 ⟨rfl, rfl⟩
              conv => whnf
              exact ⟨hGp, rfl⟩
            | false =>
              have hW2 : W = 0 := by rw [← hW]; unfold wantN; rw [if_neg n35, if_neg n3, if_neg (by rw [← j2]; decide)]
              conv => whnf
              have he8 : e8 ≠ 0 := by rw [hW2] at g1; simpa using g1
              rw [decide_eq_false (show ¬ (e8 : Int) = 0 by omega), decide_eq_false (show ¬ (0 : Int) < 0 by decide), show (false == false) = true from rfl]
              conv => whnf
              rw [decide_eq_true (show (W : Int) = 0 by omega)]
              conv => whnf
              refine (wakes_spec _).mono ?_
              rintro r h9 ⟨rfl, rfl⟩
              conv => whnf
              exact ⟨hGp, rfl⟩
    · rw [if_neg h9]
      obtain ⟨e1, e2⟩ := f6.resolve_left h9
      subst e1; subst e2
      conv => whnf
      rw [decide_eq_false (show ¬ (i : Int) ≤ 9 by omega)]
      conv => whnf
      refine ⟨_, _, OpV.bytesToStr (e := 5) (bs := [c]) rfl (uSl (E := E) rfl rfl) (uInt (E := E) rfl rfl) (uStr (E := E) rfl rfl) rfl (by decide) (srcCells_some (o := ⟨5, [byteAV c], .rw⟩) (hget_0 _ _) (fun e => by cases e) (nle rfl)), ?_⟩
      conv => whnf
      refine ⟨by show 1 + 1 < _; decide, by show 2 + 1 < _; decide, ?_⟩
      refine (tokens_spec [97, c, 98] (by show 3 < _; decide) _).mono ?_
      rintro r h8 ⟨lv8, hp8, rfl, ht8⟩
      obtain ⟨g1, g2⟩ := forms_byte ⟨c.toNat, c.toNat_lt⟩
      replace g1 : decide ((lexL [97, UInt8.ofNat c.toNat, 98]).2.2.2 = 0) = decide (0 < wantN (UInt8.ofNat c.toNat)) := g1
      replace g2 : (lexL [97, UInt8.ofNat c.toNat, 98]).1.length = wantN (UInt8.ofNat c.toNat) := g2
      rw [UInt8.ofNat_toNat] at g1 g2
      have hlv8 : ∃ a z t, lv8 = .sl a (wantN c) z t := by
        rcases ht8 with ⟨e, rfl⟩ | ⟨_, id, _, _, rfl⟩
        · rw [e] at g2; rw [← g2]; exact ⟨_, _, _, rfl⟩
        · rw [g2]; exact ⟨_, _, _, rfl⟩
      obtain ⟨a8, z8, t8, rfl⟩ := hlv8
      have hpre : Pre h5 h8 := (((hp6.trans hp7).app _).trans hp8)
      clear ht8 hp8
      generalize (lexL [97, c, 98]).2.2.2 = e8 at g1
      generalize (lexL [97, c, 98]).2.1 = l8
      generalize (lexL [97, c, 98]).2.2.1 = c8
      conv => whnf
      have hcl := c.toNat_lt
      obtain ⟨W, hW⟩ : ∃ W, wantN c = W := ⟨_, rfl⟩
      rw [hW] at g1 g2 ⊢
      have hcx : ∀ y : UInt8, decide ((c.toNat : Int) = (y.toNat : Int)) = (c == y) := fun y => by rw [d8 c y.toNat y rfl]; rfl
      have q35 := d8 c 35 35 rfl
      have q32 := d8 c 32 32 rfl
      have q9 := d8 c 9 9 rfl
      have q10 := d8 c 10 10 rfl
      have hin : innerB c = (decide (97 ≤ (c.toNat : Int)) && decide ((c.toNat : Int) ≤ 122) || decide (48 ≤ (c.toNat : Int)) && decide ((c.toNat : Int) ≤ 57) || decide ((c.toNat : Int) = 95)) := by
        unfold innerB letterB digitB
        rw [d8 c 95 95 rfl]
      generalize hcn : (c.toNat : Int) = cn at *
      by_cases a1 : 97 ≤ cn
      · rw [decide_eq_true a1] at hin ⊢
        conv => whnf
        by_cases a2 : cn ≤ 122
        · rw [decide_eq_true a2] at hin ⊢
          replace hin : innerB c = true := hin
          conv => whnf
          refine ⟨_, _, OpV.bytesConst (e := 5) (ob := ⟨5, signsL.map byteAV, .rw⟩) rfl (uSl (E := E) rfl rfl) (uInt (E := E) rfl rfl) rfl (by decide) (hget_0 _ _) rfl, ?_⟩
          conv => whnf
          obtain ⟨G, hG⟩ : ∃ G, G = (h8 ++ [(⟨5, signsL.map byteAV, .rw⟩ : AObj)]).set h8.length (AObj.asRo ⟨5, signsL.map byteAV, .rw⟩) := ⟨_, rfl⟩
          have hGo : G[h8.length]? = some ⟨5, signsL.map byteAV, .ro⟩ := by rw [hG, hget_set (hget_0 _ _)]; rfl
          have hGp : Pre h5 G := by rw [hG]; exact (hpre.app _).set hpre.len _
          refine (Loop.cast ?_ hG.symm)
          clear hG
          refine Loop.ind (fun x : Nat × Bool => x.1 ≤ 18 ∧ x.2 = (signsL.take x.1).any (c == ·)) (fun x => [(1, .i .u8 cn), (17, .sl a8 W z8 t8), (20, .i .i64 e8), (21, .b true), (22, .b x.2), (139, .sl (some (h8.length, 0)) 18 1 false), (140, .i .i64 18), (141, .i .i64 x.1)]) (fun _ => G) (fun x => 18 - x.1) ?_ (x := (0, false)) ⟨by decide, rfl⟩ ⟨rfl, rfl, rfl, rfl, rfl, rfl, rfl, rfl, trivial⟩
          rintro ⟨j, b⟩ base ⟨j1, j2⟩ ih
          replace j1 : j ≤ 18 := j1
          replace j2 : b = (signsL.take j).any (c == ·) := j2
          by_cases hj : j < 18
          · have hx : signsL[j]? = some (signsL.getD j 0) := by
              rw [List.getD_eq_getElem?_getD, List.getElem?_eq_getElem (by show j < 18; exact hj)]; rfl
            have hta : (signsL.take (j + 1)).any (c == ·) = (b || (c == signsL.getD j 0)) := by
              rw [List.take_add_one, hx, List.any_append, ← j2]; simp
            generalize signsL.getD j 0 = x at hx hta
            conv => whnf
            rw [decide_eq_true (show (j : Int) < 18 by omega)]
            conv => whnf
            refine ⟨byteAV x, ald_leaf (E := E) rfl rfl hGo rfl ?_, ?_⟩
            · show (signsL.map byteAV)[0 + (j : Int).toNat * 1]? = _
              rw [show 0 + (j : Int).toNat * 1 = j by simp, List.getElem?_map, hx]; rfl
            conv => whnf
            refine ⟨by omega, show (j : Int) < 18 by omega, ?_⟩
            cases b with
            | true =>
              conv => whnf
              refine ih (j + 1, true) _ ⟨by show j + 1 ≤ 18; omega, by rw [hta]; rfl⟩ (by show 18 - (j + 1) < 18 - j; omega) ⟨rfl, rfl, rfl, rfl, rfl, rfl, rfl, ?_, trivial⟩
              show AV.i .i64 (IntKind.i64.wrap ((j : Int) + 1)) = .i .i64 ((j + 1 : Nat) : Int)
              rw [wrap64_id (by omega) (by omega)]; simp
            | false =>
              conv => whnf
              refine ih (j + 1, c == x) _ ⟨by show j + 1 ≤ 18; omega, by rw [hta]; rfl⟩ (by show 18 - (j + 1) < 18 - j; omega) ⟨rfl, rfl, rfl, rfl, ?_, rfl, rfl, ?_, trivial⟩
              · show AV.b (decide (cn = (x.toNat : Int))) = _
                rw [hcx]
              show AV.i .i64 (IntKind.i64.wrap ((j : Int) + 1)) = .i .i64 ((j + 1 : Nat) : Int)
              rw [wrap64_id (by omega) (by omega)]; simp
          · have hj18 : j = 18 := by omega
            subst hj18
            replace j2 : b = signsL.any (c == ·) := j2
            conv => whnf
            have hW2 : W = 2 := by rw [← hW]; unfold wantN; rw [if_pos (.inl hin)]
            have he8 : e8 = 0 := by rw [hW2] at g1; simpa using g1
            rw [decide_eq_true (show (e8 : Int) = 0 by omega), decide_eq_true (show (0 : Int) < 2 by decide), show (true == true) = true from rfl]
            conv => whnf
            rw [decide_eq_true (show (W : Int) = 2 by omega)]
            conv => whnf
            refine (wakes_spec _).mono ?_
            rintro r h9 ⟨rfl, rfl⟩
            conv => whnf
            exact ⟨hGp, rfl⟩
        · rw [decide_eq_false a2] at hin ⊢
          conv => whnf
          rw [decide_eq_true (show 48 ≤ cn by omega)] at hin ⊢
          conv => whnf
          rw [decide_eq_false (show ¬ cn ≤ 57 by omega)] at hin ⊢
          conv => whnf
          rw [decide_eq_false (show ¬ cn = 95 by omega)] at hin ⊢
          replace hin : innerB c = false := hin
          refine ⟨_, _, OpV.bytesConst (e := 5) (ob := ⟨5, signsL.map byteAV, .rw⟩) rfl (uSl (E := E) rfl rfl) (uInt (E := E) rfl rfl) rfl (by decide) (hget_0 _ _) rfl, ?_⟩
          conv => whnf
          obtain ⟨G, hG⟩ : ∃ G, G = (h8 ++ [(⟨5, signsL.map byteAV, .rw⟩ : AObj)]).set h8.length (AObj.asRo ⟨5, signsL.map byteAV, .rw⟩) := ⟨_, rfl⟩
          have hGo : G[h8.length]? = some ⟨5, signsL.map byteAV, .ro⟩ := by rw [hG, hget_set (hget_0 _ _)]; rfl
          have hGp : Pre h5 G := by rw [hG]; exact (hpre.app _).set hpre.len _
          refine (Loop.cast ?_ hG.symm)
          clear hG
          refine Loop.ind (fun x : Nat × Bool => x.1 ≤ 18 ∧ x.2 = (signsL.take x.1).any (c == ·)) (fun x => [(1, .i .u8 cn), (17, .sl a8 W z8 t8), (20, .i .i64 e8), (21, .b false), (22, .b x.2), (139, .sl (some (h8.length, 0)) 18 1 false), (140, .i .i64 18), (141, .i .i64 x.1)]) (fun _ => G) (fun x => 18 - x.1) ?_ (x := (0, false)) ⟨by decide, rfl⟩ ⟨rfl, rfl, rfl, rfl, rfl, rfl, rfl, rfl, trivial⟩
          rintro ⟨j, b⟩ base ⟨j1, j2⟩ ih
          replace j1 : j ≤ 18 := j1
          replace j2 : b = (signsL.take j).any (c == ·) := j2
          by_cases hj : j < 18
          · have hx : signsL[j]? = some (signsL.getD j 0) := by
              rw [List.getD_eq_getElem?_getD, List.getElem?_eq_getElem (by show j < 18; exact hj)]; rfl
            have hta : (signsL.take (j + 1)).any (c == ·) = (b || (c == signsL.getD j 0)) := by
              rw [List.take_add_one, hx, List.any_append, ← j2]; simp
            generalize signsL.getD j 0 = x at hx hta
            conv => whnf
            rw [decide_eq_true (show (j : Int) < 18 by omega)]
            conv => whnf
            refine ⟨byteAV x, ald_leaf (E := E) rfl rfl hGo rfl ?_, ?_⟩
            · show (signsL.map byteAV)[0 + (j : Int).toNat * 1]? = _
              rw [show 0 + (j : Int).toNat * 1 = j by simp, List.getElem?_map, hx]; rfl
            conv => whnf
            refine ⟨by omega, show (j : Int) < 18 by omega, ?_⟩
            cases b with
            | true =>
              conv => whnf
              refine ih (j + 1, true) _ ⟨by show j + 1 ≤ 18; omega, by rw [hta]; rfl⟩ (by show 18 - (j + 1) < 18 - j; omega) ⟨rfl, rfl, rfl, rfl, rfl, rfl, rfl, ?_, trivial⟩
              show AV.i .i64 (IntKind.i64.wrap ((j : Int) + 1)) = .i .i64 ((j + 1 : Nat) : Int)
              rw [wrap64_id (by omega) (by omega)]; simp
            | false =>
              conv => whnf
              refine ih (j + 1, c == x) _ ⟨by show j + 1 ≤ 18; omega, by rw [hta]; rfl⟩ (by show 18 - (j + 1) < 18 - j; omega) ⟨rfl, rfl, rfl, rfl, ?_, rfl, rfl, ?_, trivial⟩
              · show AV.b (decide (cn = (x.toNat : Int))) = _
                rw [hcx]
              show AV.i .i64 (IntKind.i64.wrap ((j : Int) + 1)) = .i .i64 ((j + 1 : Nat) : Int)
              rw [wrap64_id (by omega) (by omega)]; simp
          · have hj18 : j = 18 := by omega
            subst hj18
            replace j2 : b = signsL.any (c == ·) := j2
            conv => whnf
            rw [q35]
            cases r35 : decide (c = 35) with
            | true =>
              have hW2 : W = 2 := by rw [← hW]; unfold wantN; rw [if_pos (.inr (of_decide_eq_true r35))]
              conv => whnf
              have he8 : e8 = 0 := by rw [hW2] at g1; simpa using g1
              rw [decide_eq_true (show (e8 : Int) = 0 by omega), decide_eq_true (show (0 : Int) < 2 by decide), show (true == true) = true from rfl]
              conv => whnf
              rw [decide_eq_true (show (W : Int) = 2 by omega)]
              conv => whnf
              refine (wakes_spec _).mono ?_
              rintro r h9 ⟨rfl, rfl⟩
              conv => whnf
              exact ⟨hGp, rfl⟩
            | false =>
            conv => whnf
            have n35 : ¬ (innerB c = true ∨ c = 35) := fun e => by
              rcases e with e | e
              · rw [hin] at e; cases e
              · exact of_decide_eq_false r35 e
            rw [q32]
            cases r32 : decide (c = 32) with
            | true =>
              have hW2 : W = 3 := by rw [← hW]; unfold wantN; rw [if_neg n35, if_pos (.inl (of_decide_eq_true r32))]
              conv => whnf
              have he8 : e8 = 0 := by rw [hW2] at g1; simpa using g1
              rw [decide_eq_true (show (e8 : Int) = 0 by omega), decide_eq_true (show (0 : Int) < 3 by decide), show (true == true) = true from rfl]
              conv => whnf
              rw [decide_eq_true (show (W : Int) = 3 by omega)]
              conv => whnf
              refine (wakes_spec _).mono ?_
              rintro r h9 ⟨rfl, rfl⟩
              conv => whnf
              exact ⟨hGp, rfl⟩
            | false =>
            conv => whnf
            rw [q9]
            cases r9 : decide (c = 9) with
            | true =>
              have hW2 : W = 3 := by rw [← hW]; unfold wantN; rw [if_neg n35, if_pos (.inr (.inl (of_decide_eq_true r9)))]
              conv => whnf
              have he8 : e8 = 0 := by rw [hW2] at g1; simpa using g1
              rw [decide_eq_true (show (e8 : Int) = 0 by omega), decide_eq_true (show (0 : Int) < 3 by decide), show (true == true) = true from rfl]
              conv => whnf
              rw [decide_eq_true (show (W : Int) = 3 by omega)]
              conv => whnf
              refine (wakes_spec _).mono ?_
              rintro r h9 ⟨rfl, rfl⟩
              conv => whnf
              exact ⟨hGp, rfl⟩
            | false =>
            conv => whnf
            rw [q10]
            cases r10 : decide (c = 10) with
            | true =>
              have hW2 : W = 3 := by rw [← hW]; unfold wantN; rw [if_neg n35, if_pos (.inr (.inr (of_decide_eq_true r10)))]
              conv => whnf
              have he8 : e8 = 0 := by rw [hW2] at g1; simpa using g1
              rw [decide_eq_true (show (e8 : Int) = 0 by omega), decide_eq_true (show (0 : Int) < 3 by decide), show (true == true) = true from rfl]
              conv => whnf
              rw [decide_eq_true (show (W : Int) = 3 by omega)]
              conv => whnf
              refine (wakes_spec _).mono ?_
              rintro r h9 ⟨rfl, rfl⟩
              conv => whnf
              exact ⟨hGp, rfl⟩
            | false =>
            conv => whnf
            have n3 : ¬ (c = 32 ∨ c = 9 ∨ c = 10) := fun e => by
              rcases e with e | e | e
              · exact of_decide_eq_false r32 e
              · exact of_decide_eq_false r9 e
              · exact of_decide_eq_false r10 e
            cases b with
            | true =>
              have hW2 : W = 4 := by rw [← hW]; unfold wantN; rw [if_neg n35, if_neg n3, if_pos j2.symm]
              conv => whnf
              have he8 : e8 = 0 := by rw [hW2] at g1; simpa using g1
              rw [decide_eq_true (show (e8 : Int) = 0 by omega), decide_eq_true (show (0 : Int) < 4 by decide), show (true == true) = true from rfl]
              conv => whnf
              rw [decide_eq_true (show (W : Int) = 4 by omega)]
              conv => whnf
              refine (wakes_spec _).mono ?_
              rintro r h9 ⟨rfl, rfl⟩
              conv => whnf
              exact ⟨hGp, rfl⟩
            | false =>
              have hW2 : W = 0 := by rw [← hW]; unfold wantN; rw [if_neg n35, if_neg n3, if_neg (by rw [← j2]; decide)]
              conv => whnf
              have he8 : e8 ≠ 0 := by rw [hW2] at g1; simpa using g1
              rw [decide_eq_false (show ¬ (e8 : Int) = 0 by omega), decide_eq_false (show ¬ (0 : Int) < 0 by decide), show (false == false) = true from rfl]
              conv => whnf
              rw [decide_eq_true (show (W : Int) = 0 by omega)]
              conv => whnf
              refine (wakes_spec _).mono ?_
              rintro r h9 ⟨rfl, rfl⟩
              conv => whnf
              exact ⟨hGp, rfl⟩
      · rw [decide_eq_false a1] at hin ⊢
        conv => whnf
        by_cases a3 : 48 ≤ cn
        · rw [decide_eq_true a3] at hin ⊢
          conv => whnf
          by_cases a4 : cn ≤ 57
          · rw [decide_eq_true a4] at hin ⊢
            conv => whnf
            replace hin : innerB c = true := hin
            refine ⟨_, _, OpV.bytesConst (e := 5) (ob := ⟨5, signsL.map byteAV, .rw⟩) rfl (uSl (E := E) rfl rfl) (uInt (E := E) rfl rfl) rfl (by decide) (hget_0 _ _) rfl, ?_⟩
            conv => whnf
            obtain ⟨G, hG⟩ : ∃ G, G = (h8 ++ [(⟨5, signsL.map byteAV, .rw⟩ : AObj)]).set h8.length (AObj.asRo ⟨5, signsL.map byteAV, .rw⟩) := ⟨_, rfl⟩
            have hGo : G[h8.length]? = some ⟨5, signsL.map byteAV, .ro⟩ := by rw [hG, hget_set (hget_0 _ _)]; rfl
            have hGp : Pre h5 G := by rw [hG]; exact (hpre.app _).set hpre.len _
            refine (Loop.cast ?_ hG.symm)
            clear hG
            refine Loop.ind (fun x : Nat × Bool => x.1 ≤ 18 ∧ x.2 = (signsL.take x.1).any (c == ·)) (fun x => [(1, .i .u8 cn), (17, .sl a8 W z8 t8), (20, .i .i64 e8), (21, .b true), (22, .b x.2), (139, .sl (some (h8.length, 0)) 18 1 false), (140, .i .i64 18), (141, .i .i64 x.1)]) (fun _ => G) (fun x => 18 - x.1) ?_ (x := (0, false)) ⟨by decide, rfl⟩ ⟨rfl, rfl, rfl, rfl, rfl, rfl, rfl, rfl, trivial⟩
            rintro ⟨j, b⟩ base ⟨j1, j2⟩ ih
            replace j1 : j ≤ 18 := j1
            replace j2 : b = (signsL.take j).any (c == ·) := j2
            by_cases hj : j < 18
            · have hx : signsL[j]? = some (signsL.getD j 0) := by
                rw [List.getD_eq_getElem?_getD, List.getElem?_eq_getElem (by show j < 18; exact hj)]; rfl
              have hta : (signsL.take (j + 1)).any (c == ·) = (b || (c == signsL.getD j 0)) := by
                rw [List.take_add_one, hx, List.any_append, ← j2]; simp
              generalize signsL.getD j 0 = x at hx hta
              conv => whnf
              rw [decide_eq_true (show (j : Int) < 18 by omega)]
              conv => whnf
              refine ⟨byteAV x, ald_leaf (E := E) rfl rfl hGo rfl ?_, ?_⟩
              · show (signsL.map byteAV)[0 + (j : Int).toNat * 1]? = _
                rw [show 0 + (j : Int).toNat * 1 = j by simp, List.getElem?_map, hx]; rfl
              conv => whnf
              refine ⟨by omega, show (j : Int) < 18 by omega, ?_⟩
              cases b with
              | true =>
                conv => whnf
                refine ih (j + 1, true) _ ⟨by show j + 1 ≤ 18; omega, by rw [hta]; rfl⟩ (by show 18 - (j + 1) < 18 - j; omega) ⟨rfl, rfl, rfl, rfl, rfl, rfl, rfl, ?_, trivial⟩
                show AV.i .i64 (IntKind.i64.wrap ((j : Int) + 1)) = .i .i64 ((j + 1 : Nat) : Int)
                rw [wrap64_id (by omega) (by omega)]; simp
              | false =>
                conv => whnf
                refine ih (j + 1, c == x) _ ⟨by show j + 1 ≤ 18; omega, by rw [hta]; rfl⟩ (by show 18 - (j + 1) < 18 - j; omega) ⟨rfl, rfl, rfl, rfl, ?_, rfl, rfl, ?_, trivial⟩
                · show AV.b (decide (cn = (x.toNat : Int))) = _
                  rw [hcx]
                show AV.i .i64 (IntKind.i64.wrap ((j : Int) + 1)) = .i .i64 ((j + 1 : Nat) : Int)
                rw [wrap64_id (by omega) (by omega)]; simp
            · have hj18 : j = 18 := by omega
              subst hj18
              replace j2 : b = signsL.any (c == ·) := j2
              conv => whnf
              have hW2 : W = 2 := by rw [← hW]; unfold wantN; rw [if_pos (.inl hin)]
              have he8 : e8 = 0 := by rw [hW2] at g1; simpa using g1
              rw [decide_eq_true (show (e8 : Int) = 0 by omega), decide_eq_true (show (0 : Int) < 2 by decide), show (true == true) = true from rfl]
              conv => whnf
              rw [decide_eq_true (show (W : Int) = 2 by omega)]
              conv => whnf
              refine (wakes_spec _).mono ?_
              rintro r h9 ⟨rfl, rfl⟩
              conv => whnf
              exact ⟨hGp, rfl⟩
          · rw [decide_eq_false a4] at hin ⊢
            conv => whnf
            by_cases a5 : cn = 95
            · rw [decide_eq_true a5] at hin ⊢
              replace hin : innerB c = true := hin
              refine ⟨_, _, OpV.bytesConst (e := 5) (ob := ⟨5, signsL.map byteAV, .rw⟩) rfl (uSl (E := E) rfl rfl) (uInt (E := E) rfl rfl) rfl (by decide) (hget_0 _ _) rfl, ?_⟩
              conv => whnf
              obtain ⟨G, hG⟩ : ∃ G, G = (h8 ++ [(⟨5, signsL.map byteAV, .rw⟩ : AObj)]).set h8.length (AObj.asRo ⟨5, signsL.map byteAV, .rw⟩) := ⟨_, rfl⟩
              have hGo : G[h8.length]? = some ⟨5, signsL.map byteAV, .ro⟩ := by rw [hG, hget_set (hget_0 _ _)]; rfl
              have hGp : Pre h5 G := by rw [hG]; exact (hpre.app _).set hpre.len _
              refine (Loop.cast ?_ hG.symm)
              clear hG
              refine Loop.ind (fun x : Nat × Bool => x.1 ≤ 18 ∧ x.2 = (signsL.take x.1).any (c == ·)) (fun x => [(1, .i .u8 cn), (17, .sl a8 W z8 t8), (20, .i .i64 e8), (21, .b true), (22, .b x.2), (139, .sl (some (h8.length, 0)) 18 1 false), (140, .i .i64 18), (141, .i .i64 x.1)]) (fun _ => G) (fun x => 18 - x.1) ?_ (x := (0, false)) ⟨by decide, rfl⟩ ⟨rfl, rfl, rfl, rfl, rfl, rfl, rfl, rfl, trivial⟩
              rintro ⟨j, b⟩ base ⟨j1, j2⟩ ih
              replace j1 : j ≤ 18 := j1
              replace j2 : b = (signsL.take j).any (c == ·) := j2
              by_cases hj : j < 18
              · have hx : signsL[j]? = some (signsL.getD j 0) := by
                  rw [List.getD_eq_getElem?_getD, List.getElem?_eq_getElem (by show j < 18; exact hj)]; rfl
                have hta : (signsL.take (j + 1)).any (c == ·) = (b || (c == signsL.getD j 0)) := by
                  rw [List.take_add_one, hx, List.any_append, ← j2]; simp
                generalize signsL.getD j 0 = x at hx hta
                conv => whnf
                rw [decide_eq_true (show (j : Int) < 18 by omega)]
                conv => whnf
                refine ⟨byteAV x, ald_leaf (E := E) rfl rfl hGo rfl ?_, ?_⟩
                · show (signsL.map byteAV)[0 + (j : Int).toNat * 1]? = _
                  rw [show 0 + (j : Int).toNat * 1 = j by simp, List.getElem?_map, hx]; rfl
                conv => whnf
                refine ⟨by omega, show (j : Int) < 18 by omega, ?_⟩
                cases b with
                | true =>
                  conv => whnf
                  refine ih (j + 1, true) _ ⟨by show j + 1 ≤ 18; omega, by rw [hta]; rfl⟩ (by show 18 - (j + 1) < 18 - j; omega) ⟨rfl, rfl, rfl, rfl, rfl, rfl, rfl, ?_, trivial⟩
                  show AV.i .i64 (IntKind.i64.wrap ((j : Int) + 1)) = .i .i64 ((j + 1 : Nat) : Int)
                  rw [wrap64_id (by omega) (by omega)]; simp
                | false =>
                  conv => whnf
                  refine ih (j + 1, c == x) _ ⟨by show j + 1 ≤ 18; omega, by rw [hta]; rfl⟩ (by show 18 - (j + 1) < 18 - j; omega) ⟨rfl, rfl, rfl, rfl, ?_, rfl, rfl, ?_, trivial⟩
                  · show AV.b (decide (cn = (x.toNat : Int))) = _
                    rw [hcx]
                  show AV.i .i64 (IntKind.i64.wrap ((j : Int) + 1)) = .i .i64 ((j + 1 : Nat) : Int)
                  rw [wrap64_id (by omega) (by omega)]; simp
              · have hj18 : j = 18 := by omega
                subst hj18
                replace j2 : b = signsL.any (c == ·) := j2
                conv => whnf
                have hW2 : W = 2 := by rw [← hW]; unfold wantN; rw [if_pos (.inl hin)]
                have he8 : e8 = 0 := by rw [hW2] at g1; simpa using g1
                rw [decide_eq_true (show (e8 : Int) = 0 by omega), decide_eq_true (show (0 : Int) < 2 by decide), show (true == true) = true from rfl]
                conv => whnf
                rw [decide_eq_true (show (W : Int) = 2 by omega)]
                conv => whnf
                refine (wakes_spec _).mono ?_
                rintro r h9 ⟨rfl, rfl⟩
                conv => whnf
                exact ⟨hGp, rfl⟩
            · rw [decide_eq_false a5] at hin ⊢
              replace hin : innerB c = false := hin
              refine ⟨_, _, OpV.bytesConst (e := 5) (ob := ⟨5, signsL.map byteAV, .rw⟩) rfl (uSl (E := E) rfl rfl) (uInt (E := E) rfl rfl) rfl (by decide) (hget_0 _ _) rfl, ?_⟩
              conv => whnf
              obtain ⟨G, hG⟩ : ∃ G, G = (h8 ++ [(⟨5, signsL.map byteAV, .rw⟩ : AObj)]).set h8.length (AObj.asRo ⟨5, signsL.map byteAV, .rw⟩) := ⟨_, rfl⟩
              have hGo : G[h8.length]? = some ⟨5, signsL.map byteAV, .ro⟩ := by rw [hG, hget_set (hget_0 _ _)]; rfl
              have hGp : Pre h5 G := by rw [hG]; exact (hpre.app _).set hpre.len _
              refine (Loop.cast ?_ hG.symm)
              clear hG
              refine Loop.ind (fun x : Nat × Bool => x.1 ≤ 18 ∧ x.2 = (signsL.take x.1).any (c == ·)) (fun x => [(1, .i .u8 cn), (17, .sl a8 W z8 t8), (20, .i .i64 e8), (21, .b false), (22, .b x.2), (139, .sl (some (h8.length, 0)) 18 1 false), (140, .i .i64 18), (141, .i .i64 x.1)]) (fun _ => G) (fun x => 18 - x.1) ?_ (x := (0, false)) ⟨by decide, rfl⟩ ⟨rfl, rfl, rfl, rfl, rfl, rfl, rfl, rfl, trivial⟩
              rintro ⟨j, b⟩ base ⟨j1, j2⟩ ih
              replace j1 : j ≤ 18 := j1
              replace j2 : b = (signsL.take j).any (c == ·) := j2
              by_cases hj : j < 18
              · have hx : signsL[j]? = some (signsL.getD j 0) := by
                  rw [List.getD_eq_getElem?_getD, List.getElem?_eq_getElem (by show j < 18; exact hj)]; rfl
                have hta : (signsL.take (j + 1)).any (c == ·) = (b || (c == signsL.getD j 0)) := by
                  rw [List.take_add_one, hx, List.any_append, ← j2]; simp
                generalize signsL.getD j 0 = x at hx hta
                conv => whnf
                rw [decide_eq_true (show (j : Int) < 18 by omega)]
                conv => whnf
                refine ⟨byteAV x, ald_leaf (E := E) rfl rfl hGo rfl ?_, ?_⟩
                · show (signsL.map byteAV)[0 + (j : Int).toNat * 1]? = _
                  rw [show 0 + (j : Int).toNat * 1 = j by simp, List.getElem?_map, hx]; rfl
                conv => whnf
                refine ⟨by omega, show (j : Int) < 18 by omega, ?_⟩
                cases b with
                | true =>
                  conv => whnf
                  refine ih (j + 1, true) _ ⟨by show j + 1 ≤ 18; omega, by rw [hta]; rfl⟩ (by show 18 - (j + 1) < 18 - j; omega) ⟨rfl, rfl, rfl, rfl, rfl, rfl, rfl, ?_, trivial⟩
                  show AV.i .i64 (IntKind.i64.wrap ((j : Int) + 1)) = .i .i64 ((j + 1 : Nat) : Int)
                  rw [wrap64_id (by omega) (by omega)]; simp
                | false =>
                  conv => whnf
                  refine ih (j + 1, c == x) _ ⟨by show j + 1 ≤ 18; omega, by rw [hta]; rfl⟩ (by show 18 - (j + 1) < 18 - j; omega) ⟨rfl, rfl, rfl, rfl, ?_, rfl, rfl, ?_, trivial⟩
                  · show AV.b (decide (cn = (x.toNat : Int))) = _
                    rw [hcx]
                  show AV.i .i64 (IntKind.i64.wrap ((j : Int) + 1)) = .i .i64 ((j + 1 : Nat) : Int)
                  rw [wrap64_id (by omega) (by omega)]; simp
              · have hj18 : j = 18 := by omega
                subst hj18
                replace j2 : b = signsL.any (c == ·) := j2
                conv => whnf
                rw [q35]
                cases r35 : decide (c = 35) with
                | true =>
                  have hW2 : W = 2 := by rw [← hW]; unfold wantN; rw [if_pos (.inr (of_decide_eq_true r35))]
                  conv => whnf
                  have he8 : e8 = 0 := by rw [hW2] at g1; simpa using g1
                  rw [decide_eq_true (show (e8 : Int) = 0 by omega), decide_eq_true (show (0 : Int) < 2 by decide), show (true == true) = true from rfl]
                  conv => whnf
                  rw [decide_eq_true (show (W : Int) = 2 by omega)]
                  conv => whnf
                  refine (wakes_spec _).mono ?_
                  rintro r h9 ⟨rfl, rfl⟩
                  conv => whnf
                  exact ⟨hGp, rfl⟩
                | false =>
                conv => whnf
                have n35 : ¬ (innerB c = true ∨ c = 35) := fun e => by
                  rcases e with e | e
                  · rw [hin] at e; cases e
                  · exact of_decide_eq_false r35 e
                rw [q32]
                cases r32 : decide (c = 32) with
                | true =>
                  have hW2 : W = 3 := by rw [← hW]; unfold wantN; rw [if_neg n35, if_pos (.inl (of_decide_eq_true r32))]
                  conv => whnf
                  have he8 : e8 = 0 := by rw [hW2] at g1; simpa using g1
                  rw [decide_eq_true (show (e8 : Int) = 0 by omega), decide_eq_true (show (0 : Int) < 3 by decide), show (true == true) = true from rfl]
                  conv => whnf
                  rw [decide_eq_true (show (W : Int) = 3 by omega)]
                  conv => whnf
                  refine (wakes_spec _).mono ?_
                  rintro r h9 ⟨rfl, rfl⟩
                  conv => whnf
                  exact ⟨hGp, rfl⟩
                | false =>
                conv => whnf
                rw [q9]
                cases r9 : decide (c = 9) with
                | true =>
                  have hW2 : W = 3 := by rw [← hW]; unfold wantN; rw [if_neg n35, if_pos (.inr (.inl (of_decide_eq_true r9)))]
                  conv => whnf
                  have he8 : e8 = 0 := by rw [hW2] at g1; simpa using g1
                  rw [decide_eq_true (show (e8 : Int) = 0 by omega), decide_eq_true (show (0 : Int) < 3 by decide), show (true == true) = true from rfl]
                  conv => whnf
                  rw [decide_eq_true (show (W : Int) = 3 by omega)]
                  conv => whnf
                  refine (wakes_spec _).mono ?_
                  rintro r h9 ⟨rfl, rfl⟩
                  conv => whnf
                  exact ⟨hGp, rfl⟩
                | false =>
                conv => whnf
                rw [q10]
                cases r10 : decide (c = 10) with
                | true =>
                  have hW2 : W = 3 := by rw [← hW]; unfold wantN; rw [if_neg n35, if_pos (.inr (.inr (of_decide_eq_true r10)))]
                  conv => whnf
                  have he8 : e8 = 0 := by rw [hW2] at g1; simpa using g1
                  rw [decide_eq_true (show (e8 : Int) = 0 by omega), decide_eq_true (show (0 : Int) < 3 by decide), show (true == true) = true from rfl]
                  conv => whnf
                  rw [decide_eq_true (show (W : Int) = 3 by omega)]
                  conv => whnf
                  refine (wakes_spec _).mono ?_
                  rintro r h9 ⟨rfl, rfl⟩
                  conv => whnf
                  exact ⟨hGp, rfl⟩
                | false =>
                conv => whnf
                have n3 : ¬ (c = 32 ∨ c = 9 ∨ c = 10) := fun e => by
                  rcases e with e | e | e
                  · exact of_decide_eq_false r32 e
                  · exact of_decide_eq_false r9 e
                  · exact of_decide_eq_false r10 e
                cases b with
                | true =>
                  have hW2 : W = 4 := by rw [← hW]; unfold wantN; rw [if_neg n35, if_neg n3, if_pos j2.symm]
                  conv => whnf
                  have he8 : e8 = 0 := by rw [hW2] at g1; simpa using g1
                  rw [decide_eq_true (show (e8 : Int) = 0 by omega), decide_eq_true (show (0 : Int) < 4 by decide), show (true == true) = true from rfl]
                  conv => whnf
                  rw [decide_eq_true (show (W : Int) = 4 by omega)]
                  conv => whnf
                  refine (wakes_spec _).mono ?_
                  rintro r h9 ⟨rfl, rfl⟩
                  conv => whnf
                  exact ⟨hGp, rfl⟩
                | false =>
                  have hW2 : W = 0 := by rw [← hW]; unfold wantN; rw [if_neg n35, if_neg n3, if_neg (by rw [← j2]; decide)]
                  conv => whnf
                  have he8 : e8 ≠ 0 := by rw [hW2] at g1; simpa using g1
                  rw [decide_eq_false (show ¬ (e8 : Int) = 0 by omega), decide_eq_false (show ¬ (0 : Int) < 0 by decide), show (false == false) = true from rfl]
                  conv => whnf
                  rw [decide_eq_true (show (W : Int) = 0 by omega)]
                  conv => whnf
                  refine (wakes_spec _).mono ?_
                  rintro r h9 ⟨rfl, rfl⟩
                  conv => whnf
                  exact ⟨hGp, rfl⟩
        · rw [decide_eq_false a3] at hin ⊢
          conv => whnf
          rw [decide_eq_false (show ¬ cn = 95 by omega)] at hin ⊢
          replace hin : innerB c = false := hin
          refine ⟨_, _, OpV.bytesConst (e := 5) (ob := ⟨5, signsL.map byteAV, .rw⟩) rfl (uSl (E := E) rfl rfl) (uInt (E := E) rfl rfl) rfl (by decide) (hget_0 _ _) rfl, ?_⟩
          conv => whnf
          obtain ⟨G, hG⟩ : ∃ G, G = (h8 ++ [(⟨5, signsL.map byteAV, .rw⟩ : AObj)]).set h8.length (AObj.asRo ⟨5, signsL.map byteAV, .rw⟩) := ⟨_, rfl⟩
          have hGo : G[h8.length]? = some ⟨5, signsL.map byteAV, .ro⟩ := by rw [hG, hget_set (hget_0 _ _)]; rfl
          have hGp : Pre h5 G := by rw [hG]; exact (hpre.app _).set hpre.len _
          refine (Loop.cast ?_ hG.symm)
          clear hG
          refine Loop.ind (fun x : Nat × Bool => x.1 ≤ 18 ∧ x.2 = (signsL.take x.1).any (c == ·)) (fun x => [(1, .i .u8 cn), (17, .sl a8 W z8 t8), (20, .i .i64 e8), (21, .b false), (22, .b x.2), (139, .sl (some (h8.length, 0)) 18 1 false), (140, .i .i64 18), (141, .i .i64 x.1)]) (fun _ => G) (fun x => 18 - x.1) ?_ (x := (0, false)) ⟨by decide, rfl⟩ ⟨rfl, rfl, rfl, rfl, rfl, rfl, rfl, rfl, trivial⟩
          rintro ⟨j, b⟩ base ⟨j1, j2⟩ ih
          replace j1 : j ≤ 18 := j1
          replace j2 : b = (signsL.take j).any (c == ·) := j2
          by_cases hj : j < 18
          · have hx : signsL[j]? = some (signsL.getD j 0) := by
              rw [List.getD_eq_getElem?_getD, List.getElem?_eq_getElem (by show j < 18; exact hj)]; rfl
            have hta : (signsL.take (j + 1)).any (c == ·) = (b || (c == signsL.getD j 0)) := by
              rw [List.take_add_one, hx, List.any_append, ← j2]; simp
            generalize signsL.getD j 0 = x at hx hta
            conv => whnf
            rw [decide_eq_true (show (j : Int) < 18 by omega)]
            conv => whnf
            refine ⟨byteAV x, ald_leaf (E := E) rfl rfl hGo rfl ?_, ?_⟩
            · show (signsL.map byteAV)[0 + (j : Int).toNat * 1]? = _
              rw [show 0 + (j : Int).toNat * 1 = j by simp, List.getElem?_map, hx]; rfl
            conv => whnf
            refine ⟨by omega, show (j : Int) < 18 by omega, ?_⟩
            cases b with
            | true =>
              conv => whnf
              refine ih (j + 1, true) _ ⟨by show j + 1 ≤ 18; omega, by rw [hta]; rfl⟩ (by show 18 - (j + 1) < 18 - j; omega) ⟨rfl, rfl, rfl, rfl, rfl, rfl, rfl, ?_, trivial⟩
              show AV.i .i64 (IntKind.i64.wrap ((j : Int) + 1)) = .i .i64 ((j + 1 : Nat) : Int)
              rw [wrap64_id (by omega) (by omega)]; simp
            | false =>
              conv => whnf
              refine ih (j + 1, c == x) _ ⟨by show j + 1 ≤ 18; omega, by rw [hta]; rfl⟩ (by show 18 - (j + 1) < 18 - j; omega) ⟨rfl, rfl, rfl, rfl, ?_, rfl, rfl, ?_, trivial⟩
              · show AV.b (decide (cn = (x.toNat : Int))) = _
                rw [hcx]
              show AV.i .i64 (IntKind.i64.wrap ((j : Int) + 1)) = .i .i64 ((j + 1 : Nat) : Int)
              rw [wrap64_id (by omega) (by omega)]; simp
          · have hj18 : j = 18 := by omega
            subst hj18
            replace j2 : b = signsL.any (c == ·) := j2
            conv => whnf
            rw [q35]
            cases r35 : decide (c = 35) with
            | true =>
              have hW2 : W = 2 := by rw [← hW]; unfold wantN; rw [if_pos (.inr (of_decide_eq_true r35))]
              conv => whnf
              have he8 : e8 = 0 := by rw [hW2] at g1; simpa using g1
              rw [decide_eq_true (show (e8 : Int) = 0 by omega), decide_eq_true (show (0 : Int) < 2 by decide), show (true == true) = true from rfl]
              conv => whnf
              rw [decide_eq_true (show (W : Int) = 2 by omega)]
              conv => whnf
              refine (wakes_spec _).mono ?_
              rintro r h9 ⟨rfl, rfl⟩
              conv => whnf
              exact ⟨hGp, rfl⟩
            | false =>
            conv => whnf
            have n35 : ¬ (innerB c = true ∨ c = 35) := fun e => by
              rcases e with e | e
              · rw [hin] at e; cases e
              · exact of_decide_eq_false r35 e
            rw [q32]
            cases r32 : decide (c = 32) with
            | true =>
              have hW2 : W = 3 := by rw [← hW]; unfold wantN; rw [if_neg n35, if_pos (.inl (of_decide_eq_true r32))]
              conv => whnf
              have he8 : e8 = 0 := by rw [hW2] at g1; simpa using g1
              rw [decide_eq_true (show (e8 : Int) = 0 by omega), decide_eq_true (show (0 : Int) < 3 by decide), show (true == true) = true from rfl]
              conv => whnf
              rw [decide_eq_true (show (W : Int) = 3 by omega)]
              conv => whnf
              refine (wakes_spec _).mono ?_
              rintro r h9 ⟨rfl, rfl⟩
              conv => whnf
              exact ⟨hGp, rfl⟩
            | false =>
            conv => whnf
            rw [q9]
            cases r9 : decide (c = 9) with
            | true =>
              have hW2 : W = 3 := by rw [← hW]; unfold wantN; rw [if_neg n35, if_pos (.inr (.inl (of_decide_eq_true r9)))]
              conv => whnf
              have he8 : e8 = 0 := by rw [hW2] at g1; simpa using g1
              rw [decide_eq_true (show (e8 : Int) = 0 by omega), decide_eq_true (show (0 : Int) < 3 by decide), show (true == true) = true from rfl]
              conv => whnf
              rw [decide_eq_true (show (W : Int) = 3 by omega)]
              conv => whnf
              refine (wakes_spec _).mono ?_
              rintro r h9 ⟨rfl, rfl⟩
              conv => whnf
              exact ⟨hGp, rfl⟩
            | false =>
            conv => whnf
            rw [q10]
            cases r10 : decide (c = 10) with
            | true =>
              have hW2 : W = 3 := by rw [← hW]; unfold wantN; rw [if_neg n35, if_pos (.inr (.inr (of_decide_eq_true r10)))]
              conv => whnf
              have he8 : e8 = 0 := by rw [hW2] at g1; simpa using g1
              rw [decide_eq_true (show (e8 : Int) = 0 by omega), decide_eq_true (show (0 : Int) < 3 by decide), show (true == true) = true from rfl]
              conv => whnf
              rw [decide_eq_true (show (W : Int) = 3 by omega)]
              conv => whnf
              refine (wakes_spec _).mono ?_
              rintro r h9 ⟨rfl, rfl⟩
              conv => whnf
              exact ⟨hGp, rfl⟩
            | false =>
            conv => whnf
            have n3 : ¬ (c = 32 ∨ c = 9 ∨ c = 10) := fun e => by
              rcases e with e | e | e
              · exact of_decide_eq_false r32 e
              · exact of_decide_eq_false r9 e
              · exact of_decide_eq_false r10 e
            cases b with
            | true =>
              have hW2 : W = 4 := by rw [← hW]; unfold wantN; rw [if_neg n35, if_neg n3, if_pos j2.symm]
              conv => whnf
              have he8 : e8 = 0 := by rw [hW2] at g1; simpa using g1
              rw [decide_eq_true (show (e8 : Int) = 0 by omega), decide_eq_true (show (0 : Int) < 4 by decide), show (true == true) = true from rfl]
              conv => whnf
              rw [decide_eq_true (show (W : Int) = 4 by omega)]
              conv => whnf
              refine (wakes_spec _).mono ?_
              rintro r h9 ⟨rfl, rfl⟩
              conv => whnf
              exact ⟨hGp, rfl⟩
            | false =>
              have hW2 : W = 0 := by rw [← hW]; unfold wantN; rw [if_neg n35, if_neg n3, if_neg (by rw [← j2]; decide)]
              conv => whnf
              have he8 : e8 ≠ 0 := by rw [hW2] at g1; simpa using g1
              rw [decide_eq_false (show ¬ (e8 : Int) = 0 by omega), decide_eq_false (show ¬ (0 : Int) < 0 by decide), show (false == false) = true from rfl]
              conv => whnf
              rw [decide_eq_true (show (W : Int) = 0 by omega)]
              conv => whnf
              refine (wakes_spec _).mono ?_
              rintro r h9 ⟨rfl, rfl⟩
              conv => whnf
              exact ⟨hGp, rfl⟩

end Go.Sim.Tryd
