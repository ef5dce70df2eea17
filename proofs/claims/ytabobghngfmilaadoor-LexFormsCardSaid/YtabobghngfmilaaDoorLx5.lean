/- Package lex: all tokens of a text. -/
import Derived.Test.YtabobghngfmilaaDoorLx4
set_option linter.unusedSimpArgs false
namespace Go.Sim.Tryd
open Go.Proofs Go.Lx

def tkC (t : Tk) : List AV := [.i .i64 t.kind, .i .i64 t.n, .i .i64 t.line, .i .i64 t.col, .s t.text]
def tkCells : List Tk → List AV
  | [] => []
  | t :: l => tkC t ++ tkCells l

theorem tkCells_app : ∀ (l : List Tk) (t : Tk), tkCells (l ++ [t]) = tkCells l ++ tkC t
  | [], t => by simp [tkCells]
  | x :: l, t => by simp [tkCells, tkCells_app l t]

theorem tkCells_len : ∀ l : List Tk, (tkCells l).length = l.length * 5
  | [] => rfl
  | x :: l => by
    have := tkCells_len l
    simp only [tkCells, List.length_append, this, List.length_cons]
    show 5 + l.length * 5 = _
    omega

/-- A list of tokens: where it lies. -/
def TkAt (h : AHeap) (l : List Tk) (H : AHeap) (lv : AV) : Prop :=
  (l = [] ∧ lv = .sl none 0 0 true) ∨ (l ≠ [] ∧ ∃ id, h.length ≤ id ∧ H[id]? = some ⟨52, tkCells l, .rw⟩ ∧ lv = .sl (some (id, 0)) l.length 5 false)

def TokOut (h : AHeap) (R : List Tk × Nat × Nat × Nat) (r : AE) (h' : AHeap) : Prop :=
  ∃ lv, Pre h h' ∧ r = .ret (.tu [lv, .i .i64 R.2.1, .i .i64 R.2.2.1, .i .i64 R.2.2.2]) ∧ TkAt h R.1 h' lv

structure TS where
  f : Nat
  s : List UInt8
  l : Nat
  c : Nat
  acc : List Tk
  H : AHeap
  lv : AV

theorem blanksL_len : ∀ (b : Bool) (s : List UInt8) (l c : Nat), (blanksL b s l c).1.length ≤ s.length ∧ (blanksL b s l c).2.1 + (blanksL b s l c).1.length ≤ l + s.length ∧ (blanksL b s l c).2.2 + (blanksL b s l c).1.length ≤ max 1 c + s.length
  | _, [], l, c => by simp [blanksL]; omega
  | b, x :: s, l, c => by
    unfold blanksL
    have h1 := blanksL_len false s (l + 1) 1
    have h2 := blanksL_len true s l (c + 1)
    have h3 := blanksL_len false s l (c + 1)
    cases decide (x = 10) <;> cases b <;> cases decide (x = 32) || decide (x = 9) <;> cases decide (x = 35) <;> simp only [cond_true, cond_false, List.length_cons] <;> omega

theorem tokenL_len (s : List UInt8) (l c : Nat) {t : Tk} {n : Nat} (h : tokenL s l c = some (t, n)) : (t.kind = 4 ∧ n = 0) ∨ (t.kind ≠ 4 ∧ 1 ≤ n ∧ n ≤ s.length) := by
  cases s with
  | nil => simp [tokenL] at h; obtain ⟨rfl, rfl⟩ := h; simp
  | cons x s =>
    rw [tokenL_pos (x :: s) l c (by simp) x (by simp)] at h
    have hi := runL_le innerB (x :: s)
    have hd := runL_le digitB (x :: s)
    cases q1 : letterB x with
    | true =>
      have hp := runL_pos innerB (x :: s) (by simp) (by simp [innerB, q1])
      rw [q1] at h
      simp only [cond_true] at h
      cases q2 : decide (16 < runL innerB (x :: s)) with
      | true => rw [q2] at h; simp at h
      | false =>
        rw [q2] at h; simp at h
        obtain ⟨rfl, rfl⟩ := h
        exact .inr ⟨by simp, hp, hi⟩
    | false =>
      rw [q1] at h
      simp only [cond_false] at h
      cases q2 : digitB x with
      | true =>
        have hp := runL_pos digitB (x :: s) (by simp) (by simp [q2])
        rw [q2] at h
        simp only [cond_true] at h
        cases q3 : decide (9 < runL digitB (x :: s)) || (decide (x = 48) && decide (1 < runL digitB (x :: s))) with
        | true => rw [q3] at h; simp at h
        | false =>
          rw [q3] at h; simp at h
          obtain ⟨rfl, rfl⟩ := h
          exact .inr ⟨by simp, hp, hd⟩
      | false =>
        rw [q2] at h
        simp only [cond_false] at h
        cases q3 : decide (0 ≤ idxL signsL x) with
        | true =>
          rw [q3] at h; simp at h
          obtain ⟨rfl, rfl⟩ := h
          exact .inr ⟨by simp, by simp, by simp⟩
        | false => rw [q3] at h; simp at h

theorem src_tk (X : AHeap) (t : Tk) : srcCells (X ++ [(⟨52, tkC t, .rw⟩ : AObj)]) (some (X.length, 0)) 1 5 = some (tkC t) :=
  srcCells_some (o := ⟨52, tkC t, .rw⟩) (hget_0 _ _) (fun e => by cases e) (nle rfl)

theorem tokens_spec (s : List UInt8) (hs : s.length < 9223372036854775807) (h : AHeap) : Call Tryd.prog 10 [.s s] (TokOut h (lexL s)) h := by
  refine Call.of_body (E := E) Tryd.func10 Tryd.ntmps10 (rs := [_, _, _, _]) Tryd.results10 rfl (by decide) rfl ?_
  conv => whnf
  by_cases h1 : 16384 < s.length
  · rw [decide_eq_true (show (16384 : Int) < (s.length : Nat) by omega)]
    have : lexL s = ([], 0, 0, 3) := by unfold lexL; rw [decide_eq_true h1]; rfl
    rw [this]
    conv => whnf
    exact ⟨_, Pre.refl h, rfl, .inl ⟨rfl, rfl⟩⟩
  · rw [decide_eq_false (show ¬ (16384 : Int) < (s.length : Nat) by omega)]
    have : lexL s = toksL (s.length + 1) s 1 1 [] := by unfold lexL; rw [decide_eq_false h1]; rfl
    rw [this]
    generalize hR : toksL (s.length + 1) s 1 1 [] = R
    conv => whnf
    refine Loop.ind (fun x : TS => toksL x.f x.s x.l x.c x.acc = R ∧ x.s.length < x.f ∧ x.l + x.s.length ≤ 20000 ∧ x.c + x.s.length ≤ 20000 ∧ x.acc.length + x.s.length ≤ 16384 ∧ Pre h x.H ∧ x.H[h.length]? = some (rdO x.s x.l x.c) ∧ TkAt (h ++ [rdO [] 0 0]) x.acc x.H x.lv)
      (fun x => [(2, x.lv), (6, .p (some (h.length, 0)))]) (fun x => x.H) (fun x => x.f) ?_ (x := ⟨s.length + 1, s, 1, 1, [], h ++ [rdO s 1 1], .sl none 0 0 true⟩)
      ⟨hR, by simp, by simp; omega, by simp; omega, by simp; omega, (Pre.refl h).app _, by simp, .inl ⟨rfl, rfl⟩⟩ ⟨rfl, rfl, trivial⟩
    rintro ⟨f, s, l, c, acc, H, lv⟩ base ⟨i1, i2, i3, i4, i5, i6, i7, i8⟩ ih
    cases f with
    | zero => exact absurd i2 (Nat.not_lt_zero _)
    | succ f =>
    replace i1 : toksL (f + 1) s l c acc = R := i1
    replace i2 : s.length < f + 1 := i2
    replace i3 : l + s.length ≤ 20000 := i3
    replace i4 : c + s.length ≤ 20000 := i4
    replace i5 : acc.length + s.length ≤ 16384 := i5
    replace i6 : Pre h H := i6
    replace i7 : H[h.length]? = some (rdO s l c) := i7
    replace i8 : TkAt (h ++ [rdO [] 0 0]) acc H lv := i8
    obtain ⟨b1, b2, b3⟩ := blanksL_len false s l c
    conv => whnf
    refine (blanks_spec H h.length s l c i7 (by omega) (by omega)).mono ?_
    rintro r h' ⟨rfl, rfl⟩
    unfold toksL at i1
    generalize blanksL false s l c = B at b1 b2 b3 i1
    obtain ⟨s1, l1, c1⟩ := B
    dsimp only at i1
    replace b1 : s1.length ≤ s.length := b1
    replace b2 : l1 + s1.length ≤ l + s.length := b2
    replace b3 : c1 + s1.length ≤ max 1 c + s.length := b3
    conv => whnf
    refine (token_spec _ h.length s1 l1 c1 (hget_set i7) (by omega) (by omega)).mono ?_
    intro r h' hT
    cases ht : tokenL s1 l1 c1 with
    | none =>
      rw [ht] at hT i1
      obtain ⟨rfl, rfl⟩ := hT
      replace i1 : ([], l1, c1, 2) = R := i1
      subst i1
      conv => whnf
      refine ⟨_, hget_0 _ _, rfl, nle rfl, ?_⟩
      rw [hset_0]
      conv => whnf
      refine Rest.drawW (E := E) [] (by decide) (by decide +kernel) ?_
      conv => whnf
      refine ⟨_, ald_leaf (E := E) rfl rfl (hget_0 _ _) rfl rfl, ?_⟩
      conv => whnf
      refine ⟨_, ald_leaf (E := E) rfl rfl (hget_0 _ _) rfl rfl, ?_⟩
      conv => whnf
      exact ⟨_, (i6.set (Nat.le_refl _) _).app _, rfl, .inl ⟨rfl, rfl⟩⟩
    | some tn =>
      obtain ⟨t, n⟩ := tn
      rw [ht] at hT i1
      obtain ⟨rfl, rfl⟩ := hT
      replace i1 : (bif decide (t.kind = 4) then (acc ++ [t], 0, 0, 0) else toksL f (s1.drop n) l1 (c1 + n) (acc ++ [t])) = R := i1
      have htl := tokenL_len s1 l1 c1 ht
      rw [List.set_set]
      have hK1 : (H.set h.length (rdO (s1.drop n) l1 (c1 + n)))[h.length]? = some (rdO (s1.drop n) l1 (c1 + n)) := hget_set i7
      have hK2 : ∀ id, (h ++ [rdO [] 0 0]).length ≤ id → (H.set h.length (rdO (s1.drop n) l1 (c1 + n)))[id]? = H[id]? := fun id hid => by
        rw [hget_ne (by simp at hid; omega)]
      have hK3 : Pre h (H.set h.length (rdO (s1.drop n) l1 (c1 + n))) := i6.set (Nat.le_refl _) _
      generalize H.set h.length (rdO (s1.drop n) l1 (c1 + n)) = K at hK1 hK2 hK3
      rcases i8 with ⟨rfl, rfl⟩ | ⟨hne, id, hid, hob, rfl⟩
      · replace i1 : (bif decide (t.kind = 4) then ([t], 0, 0, 0) else toksL f (s1.drop n) l1 (c1 + n) [t]) = R := i1
        conv => whnf
        refine ⟨_, hget_0 _ _, rfl, nle rfl, ?_⟩
        rw [hset_0]
        conv => whnf
        refine ⟨_, ald_struct (E := E) rfl rfl (hget_0 _ _) rfl rfl rfl, ?_⟩
        conv => whnf
        refine ⟨_, src_tk _ t, rfl, by decide, by decide, by decide, ?_⟩
        conv => whnf
        refine ⟨_, ald_leaf (E := E) rfl rfl (hget_l (hget_l (hget_0 _ _))) rfl rfl, ?_⟩
        conv => whnf
        by_cases hk : t.kind = 4
        · rw [decide_eq_true (show (t.kind : Int) = 4 by omega)]
          rw [decide_eq_true hk] at i1
          replace i1 : ([t], 0, 0, 0) = R := i1
          subst i1
          conv => whnf
          refine ⟨_, ((hK3.app _).app _).app _, rfl, .inr ⟨by simp, _, ?_, by rw [hget_0]; simp [tkCells], rfl⟩⟩
          simp; have := hK3.len; omega
        · rw [decide_eq_false (show ¬ (t.kind : Int) = 4 by omega)]
          rw [decide_eq_false hk] at i1
          replace i1 : toksL f (s1.drop n) l1 (c1 + n) ([t]) = R := i1
          have hn : 1 ≤ n ∧ n ≤ s1.length := by rcases htl with h2 | h2 <;> omega
          conv => whnf
          refine ih ⟨f, s1.drop n, l1, c1 + n, [t], _, _⟩ _ ⟨i1, ?_, ?_, ?_, ?_, ((hK3.app _).app _).app _, ?_, .inr ⟨by simp, _, ?_, by rw [hget_0]; simp [tkCells], rfl⟩⟩ (Nat.lt_succ_self _) ⟨rfl, rfl, trivial⟩
          · simp only [List.length_drop]; omega
          · simp only [List.length_drop]; omega
          · simp only [List.length_drop]; omega
          · simp only [List.length_drop, List.length_append, List.length_cons, List.length_nil]; simp at i5; omega
          · exact hget_l (hget_l (hget_l hK1))
          · have := (List.getElem?_eq_some_iff.1 hK1).1; simp; omega
      · have hne' : id ≠ h.length := by simp at hid; omega
        conv => whnf
        refine ⟨_, hget_0 _ _, rfl, nle rfl, ?_⟩
        rw [hset_0]
        conv => whnf
        refine ⟨_, ald_struct (E := E) rfl rfl (hget_0 _ _) rfl rfl rfl, ?_⟩
        conv => whnf
        refine ⟨_, _, hget_l (hget_l ((hK2 id hid).trans hob)), src_tk _ t, rfl, rfl, rfl, rfl, by rw [tkCells_len]; exact Nat.le_refl _, rfl, by decide, ?_, ?_, ?_⟩
        · rw [show ti52.bytes = 48 from rfl]; omega
        · omega
        conv => whnf
        have hKid : id ≠ K.length := by
          have := (List.getElem?_eq_some_iff.1 ((hK2 id hid).trans hob)).1; omega
        refine ⟨_, ald_leaf (E := E) rfl rfl (hget_l (by rw [hget_ne hKid]; exact hget_l (hget_0 _ _))) rfl rfl, ?_⟩
        conv => whnf
        by_cases hk : t.kind = 4
        · rw [decide_eq_true (show (t.kind : Int) = 4 by omega)]
          rw [decide_eq_true hk] at i1
          replace i1 : (acc ++ [t], 0, 0, 0) = R := i1
          subst i1
          conv => whnf
          refine ⟨_, (((hK3.app _).app _).set (by simp at hid; omega) _).app _, rfl, .inr ⟨by simp, _, ?_, by rw [hget_0, tkCells_app]; rw [show (acc.length * 5) = (tkCells acc).length from (tkCells_len acc).symm, List.take_length]; rfl, by simp⟩⟩
          simp; have := hK3.len; omega
        · rw [decide_eq_false (show ¬ (t.kind : Int) = 4 by omega)]
          rw [decide_eq_false hk] at i1
          replace i1 : toksL f (s1.drop n) l1 (c1 + n) (acc ++ [t]) = R := i1
          have hn : 1 ≤ n ∧ n ≤ s1.length := by rcases htl with h2 | h2 <;> omega
          conv => whnf
          refine ih ⟨f, s1.drop n, l1, c1 + n, acc ++ [t], _, _⟩ _ ⟨i1, ?_, ?_, ?_, ?_, (((hK3.app _).app _).set (by simp at hid; omega) _).app _, ?_, .inr ⟨by simp, _, ?_, by rw [hget_0, tkCells_app]; rw [show (acc.length * 5) = (tkCells acc).length from (tkCells_len acc).symm, List.take_length]; rfl, by simp⟩⟩ (Nat.lt_succ_self _) ⟨rfl, rfl, trivial⟩
          · simp only [List.length_drop]; omega
          · simp only [List.length_drop]; omega
          · simp only [List.length_drop]; omega
          · simp only [List.length_drop, List.length_append, List.length_cons, List.length_nil]; omega
          · exact hget_l (by rw [hget_ne hne']; exact hget_l (hget_l hK1))
          · have := (List.getElem?_eq_some_iff.1 hK1).1; simp; omega
end Go.Sim.Tryd
