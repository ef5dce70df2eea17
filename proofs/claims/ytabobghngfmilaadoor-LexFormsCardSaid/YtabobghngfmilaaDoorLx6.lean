/- Chapter 4's laws: what they call beside the lexer. -/
import Derived.Test.YtabobghngfmilaaDoorLx5
set_option linter.unusedSimpArgs false
namespace Go.Sim.Tryd
open Go.Proofs Go.Lx

def withinI (v n : Int) : Int := if n < 1 then 0 else let k := v.tmod n; if k < 0 then k + n else k

theorem within_spec (v n : Int) (hn : n < 4611686018427387904) (h : AHeap) : Call Tryd.prog 8 [.i .i64 v, .i .i64 n] (fun r h' => h' = h ∧ r = .ret (.i .i64 (withinI v n))) h := by
  refine Call.of_body (E := E) Tryd.func8 Tryd.ntmps8 (rs := [_]) Tryd.results8 rfl (by decide) rfl ?_
  conv => whnf
  unfold withinI
  by_cases h1 : n < 1
  · rw [decide_eq_true h1, if_pos h1]
    conv => whnf
    exact ⟨rfl, rfl⟩
  · rw [decide_eq_false h1, if_neg h1]
    conv => whnf
    refine ⟨by omega, ?_⟩
    have b1 := Int.tmod_lt_of_pos v (show 0 < n by omega)
    have b2 := Int.lt_tmod_of_pos v (show 0 < n by omega)
    generalize v.tmod n = k at b1 b2
    conv => whnf
    by_cases h2 : k < 0
    · rw [decide_eq_true h2]
      conv => whnf
      refine ⟨rfl, ?_⟩
      simp only [h2, if_true]
      rw [wrap64_id (by omega) (by omega)]
    · rw [decide_eq_false h2]
      conv => whnf
      refine ⟨rfl, ?_⟩
      simp only [h2, if_false]

/-- Tokens that a slice shows. -/
def TkSl (H : AHeap) (lv : AV) (l : List Tk) : Prop :=
  (l = [] ∧ ∃ z t, lv = .sl none 0 z t) ∨ (∃ id off tg o, H[id]? = some o ∧ o.st.live = true ∧ off + l.length * 5 ≤ o.cells.length ∧ (o.cells.drop off).take (l.length * 5) = tkCells l ∧ lv = .sl (some (id, off)) l.length 5 tg)

theorem tkCells_at : ∀ (l : List Tk) (i : Nat) (t : Tk), l[i]? = some t → ((tkCells l).drop (i * 5)).take 5 = tkC t
  | [], i, t, h => by simp at h
  | x :: l, 0, t, h => by
    simp at h; subst h
    simp [tkCells, tkC]
  | x :: l, i + 1, t, h => by
    have := tkCells_at l i t (by simpa using h)
    rw [← this, tkCells, List.drop_append]
    rw [List.drop_eq_nil_of_le (by simp [tkC]; omega)]
    simp only [List.nil_append]
    congr 2
    simp [tkC]; omega

theorem TkSl.load {H : AHeap} {l : List Tk} {id off : Nat} {o : AObj} (ho : H[id]? = some o) (hd : o.st.live = true) (hl : off + l.length * 5 ≤ o.cells.length) (hc : (o.cells.drop off).take (l.length * 5) = tkCells l) {i : Nat} {t : Tk} (ht : l[i]? = some t) :
    ald E.P H 52 id (off + i * 5) = some (.ag (tkC t)) := by
  have hi : i < l.length := (List.getElem?_eq_some_iff.1 ht).1
  refine ald_struct (E := E) rfl rfl ho hd (Nat.ble_eq_true_of_le (by show off + i * 5 + 5 ≤ _; omega)) ?_
  show (o.cells.drop (off + i * 5)).take 5 = _
  rw [← tkCells_at l i t ht, ← hc, List.drop_take, List.take_take, List.drop_drop]
  congr 1
  omega

theorem eqB_tk (t u : Tk) : eqB (tkC t) (tkC u) = decide (t = u) := by
  rw [Bool.eq_iff_iff]
  cases t; cases u
  simp only [tkC, eqB, Bool.and_true, Bool.and_eq_true, decide_eq_true_eq, Tk.mk.injEq]
  constructor
  · rintro ⟨h1, h2, h3, h4, h5⟩
    exact ⟨by omega, by omega, by omega, by omega, h5⟩
  · rintro ⟨h1, h2, h3, h4, h5⟩
    exact ⟨by omega, by omega, by omega, by omega, h5⟩

theorem same_spec (H : AHeap) (la lb : AV) (l m : List Tk) (ha : TkSl H la l) (hb : TkSl H lb m) (hl : l.length < 4611686018427387904) (hm : m.length < 4611686018427387904) : Call Tryd.prog 29 [la, lb] (fun r h' => h' = H ∧ r = .ret (.b (decide (l = m)))) H := by
  refine Call.of_body (E := E) Tryd.func29 Tryd.ntmps29 (rs := [_]) Tryd.results29 rfl (by decide) rfl ?_
  have la' : ∃ a z t, la = .sl a l.length z t := by
    rcases ha with ⟨rfl, z, t, rfl⟩ | ⟨id, off, tg, o, _, _, _, _, rfl⟩
    · exact ⟨_, _, _, rfl⟩
    · exact ⟨_, _, _, rfl⟩
  have lb' : ∃ a z t, lb = .sl a m.length z t := by
    rcases hb with ⟨rfl, z, t, rfl⟩ | ⟨id, off, tg, o, _, _, _, _, rfl⟩
    · exact ⟨_, _, _, rfl⟩
    · exact ⟨_, _, _, rfl⟩
  by_cases h1 : l.length = m.length
  · by_cases h0 : l = []
    · subst h0
      have hm0 : m = [] := List.eq_nil_of_length_eq_zero (by simpa using h1.symm)
      subst hm0
      rcases ha with ⟨_, z, t, rfl⟩ | ⟨id, off, tg, o, _, _, _, _, rfl⟩ <;> rcases hb with ⟨_, z', t', rfl⟩ | ⟨id', off', tg', o', _, _, _, _, rfl⟩
      all_goals
        conv => whnf
        refine Loop.round ?_
        conv => whnf
        exact ⟨rfl, rfl⟩
    · have hm0 : m ≠ [] := fun e => h0 (List.eq_nil_of_length_eq_zero (by rw [h1, e]; rfl))
      rcases ha with ⟨e, _⟩ | ⟨id, off, tg, o, ho, hd, hlo, hco, rfl⟩
      · exact absurd e h0
      rcases hb with ⟨e, _⟩ | ⟨id', off', tg', o', ho', hd', hlo', hco', rfl⟩
      · exact absurd e hm0
      conv => whnf
      rw [decide_eq_true (show ((l.length : Nat) : Int) = (m.length : Nat) by omega)]
      conv => whnf
      refine Loop.ind (fun i : Nat => i ≤ l.length ∧ ∀ j, j < i → l[j]? = m[j]?) (fun i => [(0, .sl (some (id, off)) l.length 5 tg), (1, .sl (some (id', off')) m.length 5 tg'), (5, .i .i64 i)]) (fun _ => H) (fun i => l.length - i) ?_ (x := 0) ⟨Nat.zero_le _, fun j hj => by omega⟩ ⟨rfl, rfl, rfl, trivial⟩
      intro i base hI ih
      by_cases hi : i < l.length
      · obtain ⟨t, ht⟩ : ∃ t, l[i]? = some t := ⟨_, List.getElem?_eq_getElem hi⟩
        obtain ⟨u, hu⟩ : ∃ u, m[i]? = some u := ⟨_, List.getElem?_eq_getElem (by omega)⟩
        conv => whnf
        rw [decide_eq_true (show (i : Int) < (l.length : Nat) by omega)]
        conv => whnf
        refine Rest.drawW (E := E) [] (by decide) (by decide +kernel) ?_
        conv => whnf
        refine ⟨by omega, show (i : Int) < (l.length : Nat) by omega, ?_⟩
        conv => whnf
        refine ⟨_, TkSl.load ho hd hlo hco ht, ?_⟩
        conv => whnf
        refine ⟨by omega, show (i : Int) < (m.length : Nat) by omega, ?_⟩
        conv => whnf
        refine ⟨_, TkSl.load ho' hd' hlo' hco' hu, ?_⟩
        conv => whnf
        refine ⟨_, fun g => OpV.eqStructE (E := E) [.int .i64, .int .i64, .int .i64, .int .i64, .str] Tryd.underlying52 Tryd.stoodInHeld52 Tryd.eqGuardType52 (by decide +kernel) rfl rfl rfl rfl rfl (.inr ⟨rfl, rfl⟩), ?_⟩
        conv => whnf
        rw [eqB_tk]
        by_cases htu : t = u
        · rw [decide_eq_true htu]
          conv => whnf
          refine ih (i + 1) _ ⟨by omega, fun j hj => ?_⟩ (by omega) ⟨rfl, rfl, ?_, trivial⟩
          · by_cases hji : j = i
            · rw [hji, ht, hu, htu]
            · exact hI.2 j (by omega)
          · show AV.i .i64 (IntKind.i64.wrap ((i : Int) + 1)) = _
            rw [wrap64_id (by omega) (by omega)]; simp
        · rw [decide_eq_false htu]
          conv => whnf
          refine ⟨rfl, ?_⟩
          rw [decide_eq_false]
          intro e; subst e
          rw [ht] at hu; cases hu; exact htu rfl
      · conv => whnf
        rw [decide_eq_false (show ¬ (i : Int) < (l.length : Nat) by omega)]
        conv => whnf
        refine ⟨rfl, ?_⟩
        rw [decide_eq_true]
        refine List.ext_getElem? fun j => ?_
        by_cases hj : j < i
        · exact hI.2 j hj
        · rw [List.getElem?_eq_none (by omega), List.getElem?_eq_none (by omega)]
  · obtain ⟨a, z, t, rfl⟩ := la'
    obtain ⟨a', z', t', rfl⟩ := lb'
    have hne : decide (l = m) = false := decide_eq_false fun e => h1 (by rw [e])
    rw [hne]
    rcases a with _ | ⟨a1, a2⟩ <;> rcases a' with _ | ⟨b1, b2⟩
    all_goals
      conv => whnf
      rw [decide_eq_false (show ¬ ((l.length : Nat) : Int) = (m.length : Nat) by omega)]
      conv => whnf
      exact ⟨rfl, rfl⟩
end Go.Sim.Tryd
