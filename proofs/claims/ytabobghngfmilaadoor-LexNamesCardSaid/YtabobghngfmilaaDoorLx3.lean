/- Package lex: a sign's place, a number's value. -/
import Derived.Test.YtabobghngfmilaaDoorLx2
set_option linter.unusedSimpArgs false
namespace Go.S2.Tryd
open Go.Proofs Go.Lx

theorem indexByte3 (s : List UInt8) (c : UInt8) : Call Tryd.prog 68 [.s s, .i .u8 c.toNat] (fun r h => h = [] ∧ r = .ret (.i .i64 (idxL s c))) [] :=
  Call.indexByte Tryd.func68 rfl rfl rfl rfl s c []

theorem indexByte2 (s : List UInt8) (c : UInt8) : Call Tryd.prog 59 [.s s, .i .u8 c.toNat] (fun r h => h = [] ∧ r = .ret (.i .i64 (idxL s c))) [] := by
  refine Call.of_body (E := E) Tryd.func59 Tryd.ntmps59 (rs := [_]) Tryd.results59 rfl (by decide) rfl ?_
  conv => whnf
  refine (indexByte3 s c).mono ?_
  rintro r h' ⟨rfl, rfl⟩
  conv => whnf
  exact .here ⟨rfl, rfl⟩

theorem indexByte_spec (s : List UInt8) (c : UInt8) : Call Tryd.prog 49 [.s s, .i .u8 c.toNat] (fun r h => h = [] ∧ r = .ret (.i .i64 (idxL s c))) [] := by
  refine Call.of_body (E := E) Tryd.func49 Tryd.ntmps49 (rs := [_]) Tryd.results49 rfl (by decide) rfl ?_
  conv => whnf
  refine (indexByte2 s c).mono ?_
  rintro r h' ⟨rfl, rfl⟩
  conv => whnf
  exact .here ⟨rfl, rfl⟩

theorem valL_lt : ∀ (s : List UInt8) (a n : Nat), (∀ j, j < s.length → digitB (s.getD j 0) = true) → a < 10 ^ n → valL s a < 10 ^ (n + s.length)
  | [], a, n, _, h => by simpa [valL] using h
  | c :: s, a, n, hd, h => by
    have h0 : digitB c = true := by simpa using hd 0 (by simp)
    unfold digitB at h0
    simp only [Bool.and_eq_true, decide_eq_true_eq] at h0
    have := valL_lt s (a * 10 + (c.toNat - 48)) (n + 1) (fun j hj => by simpa using hd (j + 1) (by simpa using hj)) (by rw [Nat.pow_succ]; omega)
    simp only [List.length_cons, valL]
    rw [show n + (s.length + 1) = n + 1 + s.length by omega]
    exact this

theorem valL_take (s : List UInt8) (a k : Nat) (hk : k < s.length) : valL (s.take (k + 1)) a = valL (s.take k) a * 10 + ((s.getD k 0).toNat - 48) := by
  induction s generalizing a k with
  | nil => simp at hk
  | cons c s ih =>
    cases k with
    | zero => simp [valL]
    | succ k => simpa [valL] using ih (a * 10 + (c.toNat - 48)) k (by simpa using hk)

theorem atoi1 (s : List UInt8) (hp : 0 < s.length) (hl : s.length ≤ 9) (hd : ∀ j, j < s.length → digitB (s.getD j 0) = true) :
    Call Tryd.prog 57 [.s s] (fun r h => h = [] ∧ r = .ret (.tu [.i .i64 (valL s 0), .noif])) [] := by
  refine Call.of_body (E := E) Tryd.func57 Tryd.ntmps57 (rs := [_, _]) Tryd.results57 rfl (by decide) rfl ?_
  have hx0 := hd 0 hp
  generalize hx : s.getD 0 0 = x at hx0
  unfold digitB at hx0
  simp only [Bool.and_eq_true, decide_eq_true_eq] at hx0
  conv => whnf
  rw [decide_eq_true (show (0 : Int) < (s.length : Nat) by omega)]
  conv => whnf
  rw [decide_eq_true (show ((s.length : Nat) : Int) < 19 by omega)]
  conv => whnf
  have hx1 : s.getD (Int.toNat 0) 0 = x := hx
  rw [hx1, d8 x 45 45 rfl, decide_eq_false (show ¬ x = 45 from fun e => by subst e; simp at hx0)]
  conv => whnf
  rw [hx1, d8 x 43 43 rfl, decide_eq_false (show ¬ x = 43 from fun e => by subst e; simp at hx0)]
  conv => whnf
  refine ⟨by decide, show (0 : Int) < (s.length : Nat) by omega, by decide, show (0 : Int) < (s.length : Nat) by omega, ?_⟩
  conv => whnf
  refine ⟨_, _, OpV.strToBytes (e := 5) rfl (uStr (E := E) rfl rfl) (uSl (E := E) rfl rfl) (uInt (E := E) rfl rfl) rfl (by omega), ?_⟩
  conv => whnf
  refine (Loop.ind (fun k : Nat => k ≤ s.length) (fun k => [(5, .s s), (6, .i .i64 (valL (s.take k) 0)), (47, .im (s.map byteAV) s.length), (48, .i .i64 s.length), (49, .i .i64 k)]) (fun _ => []) (fun k => s.length - k) ?_ 0 (Nat.zero_le _)).to [] rfl rfl rfl ⟨rfl, rfl, rfl, rfl, rfl, trivial⟩
  intro k hI ih
  by_cases h1 : k < s.length
  · have hdk := hd k h1
    have hbnd : valL (s.take k) 0 < 10 ^ 9 := by
      have h2 := valL_lt (s.take k) 0 0 (fun j hj => by
        simp only [List.length_take] at hj
        have := hd j (by omega)
        rw [List.getD_eq_getElem?_getD, List.getElem?_take, if_pos (by omega), ← List.getD_eq_getElem?_getD]; exact this) (by decide)
      have h3 : 10 ^ (0 + (s.take k).length) ≤ 10 ^ 9 := Nat.pow_le_pow_right (by decide) (by simp; omega)
      omega
    have hval := valL_take s 0 k h1
    generalize hy : s.getD k 0 = y at hdk hval
    unfold digitB at hdk
    simp only [Bool.and_eq_true, decide_eq_true_eq] at hdk
    have hw1 : IntKind.u8.wrap ((y.toNat : Int) - 48) = (y.toNat : Int) - 48 := wrap8_id (by omega) (by omega)
    conv => whnf
    rw [decide_eq_true (show (k : Int) < (s.length : Nat) by omega)]
    conv => whnf
    refine ⟨by show _ = _ * 1; simp, by omega, by omega, [byteAV y], ?_, ?_⟩
    · show ((s.map byteAV).drop ((k : Int).toNat * 1)).take 1 = _
      rw [Int.toNat_natCast, Nat.mul_one, ← List.map_drop, ← List.map_take, List.drop_eq_getElem_cons h1]
      rw [List.getD_eq_getElem?_getD, List.getElem?_eq_getElem h1] at hy
      simp at hy
      simp [hy]
    conv => whnf
    rw [hw1, decide_eq_false (show ¬ (9 : Int) < (y.toNat : Int) - 48 by omega)]
    conv => whnf
    refine (ih (k + 1) (by omega) (by omega)).to [] rfl rfl rfl ⟨rfl, ?_, rfl, rfl, ?_, trivial⟩
    · show AV.i .i64 (IntKind.i64.wrap (IntKind.i64.wrap ((valL (s.take k) 0 : Int) * 10) + IntKind.i64.wrap ((y.toNat : Int) - 48))) = _
      rw [wrap64_id (n := (valL (s.take k) 0 : Int) * 10) (by omega) (by omega), wrap64_id (n := (y.toNat : Int) - 48) (by omega) (by omega), wrap64_id (by omega) (by omega), hval]
      congr 1
      omega
    · show AV.i .i64 (IntKind.i64.wrap ((k : Int) + 1)) = _
      rw [wrap64_id (by omega) (by omega)]; simp
  · have hk : k = s.length := by omega
    subst hk
    conv => whnf
    rw [decide_eq_false (show ¬ (s.length : Int) < (s.length : Nat) by omega)]
    conv => whnf
    rw [hx1, d8 x 45 45 rfl, decide_eq_false (show ¬ x = 45 from fun e => by subst e; simp at hx0)]
    conv => whnf
    refine ⟨by decide, show (0 : Int) < (s.length : Nat) by omega, ?_⟩
    conv => whnf
    refine .here ⟨rfl, ?_⟩
    rw [List.take_length]

theorem atoi_spec (s : List UInt8) (hp : 0 < s.length) (hl : s.length ≤ 9) (hd : ∀ j, j < s.length → digitB (s.getD j 0) = true) :
    Call Tryd.prog 48 [.s s] (fun r h => h = [] ∧ r = .ret (.tu [.i .i64 (valL s 0), .noif])) [] := by
  refine Call.of_body (E := E) Tryd.func48 Tryd.ntmps48 (rs := [_, _]) Tryd.results48 rfl (by decide) rfl ?_
  conv => whnf
  refine (atoi1 s hp hl hd).mono ?_
  rintro r h' ⟨rfl, rfl⟩
  conv => whnf
  exact .here ⟨rfl, rfl⟩

end Go.S2.Tryd
