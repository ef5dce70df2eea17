/- Regions whose order Go leaves open: one run in the text's order serves for all, where those that write are in order with all that touch the heap. -/
import Derived.Test.YtabobghngfmilaaDoorS2J
set_option linter.unusedSimpArgs false
set_option linter.unusedVariables false
namespace Go.S2
variable {P : Program}

/-- One operation, a call too: which value, which heap. -/
def OpW (P : Program) (a : AF) (h : AHeap) (o : Oper) (v : AV) (h' : AHeap) : Prop :=
  ∀ κ act w, AR κ a act → HR P κ h w → ∀ (K : Act → World → Prop) (Q : Exit → Act → World → Prop),
    (∀ (val : Value) w' κ', VR κ' v val → HR P κ' h' w' → Fr κ h w κ' h' w' → K (act.put o.dst val) w') → o.wp P act w K Q

theorem OpW.of_V {a : AF} {h : AHeap} {o : Oper} {v : AV} {h' : AHeap} (s : OpV P a h o v h') : OpW P a h o v h' := by
  intro κ act w ha hh K Q hK
  obtain ⟨r, val, w', κ', h1, h2, h3, h4, h5⟩ := s κ act w ha hh
  unfold Oper.wp
  rw [h1]
  rcases h2 with rfl | ⟨rfl, rfl⟩
  · exact hK _ _ _ h3 h4 h5
  · exact hK _ _ _ h3 h4 h5

theorem OpW.of_call {a : AF} {h : AHeap} {o : Oper} {fo : Operand} {args : Array Operand} {tys : Array TypeId} {k : FuncId} {first caps : List AV} {v : AV} {h' : AHeap}
    (hop : o.op = .call { callee := .value fo, args := args, argTypes := tys }) (hf : a.ev P fo = .fn (.func k) first caps)
    (s : SC P k (first ++ args.toList.map (a.ev P) ++ caps) (fun r h2 => r = .ret v ∧ h2 = h') h) : OpW P a h o v h' := by
  intro κ act w ha hh K Q hK
  have hfv := ha.ev (P := P) hh fo
  rw [hf] at hfv
  simp only [VR] at hfv
  obtain ⟨F, C, hF, hFr, hCr⟩ := hfv
  have hargs := ev_list (P := P) ha hh args.toList
  have hall : VRL κ (first ++ args.toList.map (a.ev P) ++ caps) (F.toArray ++ args.map act.eval ++ C.toArray).toList := by
    simpa using (hFr.append hargs).append hCr
  have hrun : (execOp act.eval o).run P w = (callFunc k (F.toArray ++ args.map act.eval ++ C.toArray)).run P w := by
    unfold execOp
    simp only [hop, resolve, hF, Deferred.ofValue]
    rfl
  unfold Oper.wp
  rw [hrun]
  rcases s with ⟨⟨fn, h1, h2, h3⟩, s⟩ | s
  · rw [run_callFunc_enter h1 h2 h3]
    simp only [Oper.upon]
    refine (s κ _ w hall hh).mono ?_
    rintro e w' ⟨r, κ', h2, hr, hh', hfr, rfl, rfl⟩
    obtain ⟨y, rfl, hy⟩ := hr
    exact hK _ _ _ hy hh' hfr
  · obtain ⟨v', val, κ', h2, w', h1, h2, h3, h4, h5, rfl⟩ := s κ _ w hall hh
    rw [h1]
    cases h5
    exact hK _ _ _ h2 h3 h4

/-- One operation that panics: of which value, and in which heap. -/
def OpP (P : Program) (a : AF) (h : AHeap) (o : Oper) (v : AV) (h' : AHeap) : Prop :=
  ∀ κ act w, AR κ a act → HR P κ h w → ∀ (K : Act → World → Prop) (Q : Exit → Act → World → Prop),
    (∀ (val : Value) w' κ', VR κ' v val → HR P κ' h' w' → Fr κ h w κ' h' w' → Q (.panic [{ v := val, recovered := false }]) act w') → o.wp P act w K Q

theorem OpP.of_call {a : AF} {h : AHeap} {o : Oper} {fo : Operand} {args : Array Operand} {tys : Array TypeId} {k : FuncId} {first caps : List AV} {v : AV} {h' : AHeap}
    (hop : o.op = .call { callee := .value fo, args := args, argTypes := tys }) (hf : a.ev P fo = .fn (.func k) first caps)
    (s : SC P k (first ++ args.toList.map (a.ev P) ++ caps) (fun r h2 => r = .panic v ∧ h2 = h') h) : OpP P a h o v h' := by
  intro κ act w ha hh K Q hK
  have hfv := ha.ev (P := P) hh fo
  rw [hf] at hfv
  simp only [VR] at hfv
  obtain ⟨F, C, hF, hFr, hCr⟩ := hfv
  have hargs := ev_list (P := P) ha hh args.toList
  have hall : VRL κ (first ++ args.toList.map (a.ev P) ++ caps) (F.toArray ++ args.map act.eval ++ C.toArray).toList := by
    simpa using (hFr.append hargs).append hCr
  have hrun : (execOp act.eval o).run P w = (callFunc k (F.toArray ++ args.map act.eval ++ C.toArray)).run P w := by
    unfold execOp
    simp only [hop, resolve, hF, Deferred.ofValue]
    rfl
  unfold Oper.wp
  rw [hrun]
  rcases s with ⟨⟨fn, h1, h2, h3⟩, s⟩ | s
  · rw [run_callFunc_enter h1 h2 h3]
    simp only [Oper.upon]
    refine (s κ _ w hall hh).mono ?_
    rintro e w' ⟨r, κ', h2, hr, hh', hfr, rfl, rfl⟩
    obtain ⟨y, rfl, hy⟩ := hr
    exact hK _ _ _ hy hh' hfr
  · obtain ⟨v', val, κ', h2, w', h1, h2, h3, h4, h5, rfl⟩ := s κ _ w hall hh
    cases h5

def mask (X : List Nat) (t : Nat → AV) : Nat → AV := fun j => bif X.elem j then t j else .undef

def opTmps (xs : List Operand) : List Nat := xs.filterMap fun | .tmp t => some t | _ => none

/-- The slots that an operation looks at. -/
def looks (ds : List (Option Tmp)) (op : Op) (guard : Option (Nat × Bool)) : List Nat :=
  opTmps op.operands.toList ++ (match guard with
    | some (g, _) => match ds[g]? with
      | some (some d) => [d]
      | _ => []
    | none => [])

/-- Does it touch the heap? -/
def touches : Op → Bool
  | .move _ | .assign _ | .pick .. | .nilCheck _ | .binOp .. | .unOp .. | .convert .. | .makeInterface .. | .makeFunc .. | .fieldAddr .. | .field .. | .indexAddr .. | .index .. | .extract .. | .build .. | .slice .. => false
  | .call { callee := .builtin .len, .. } => false
  | _ => true

def prec (T : List Nat) (j i : Nat) : Bool := (T.getD i 0).testBit j

def inOrder (T : List Nat) (i j : Nat) : Bool := if i < j then prec T i j else prec T j i

def isLoad : Op → Bool
  | .load .. => true
  | _ => false

/-- What a region of open order is asked for: T: who is ahead of whom; W: who writes; A: who of those only makes new memory; R: loads of old memory, that need be in order with no one of A. -/
def dok (ops : List Oper) (T W A R : List Nat) : Bool :=
  let n := ops.length
  let ds := ops.map (·.dst)
  (List.range n).all fun i => match ops[i]? with
    | none => true
    | some o =>
      o.after.toList.all (fun e => !Region.binds .any e || decide (e.on < i)) &&
      (List.range n).all (fun j => !prec T j i || o.after.toList.any fun e => Region.binds .any e && (e.on == j || prec T j e.on)) &&
      (List.range n).all (fun k => k == i || (match ds[k]? with
        | some (some d) => (!(looks ds o.op o.guard).elem d && !(o.dst == some d)) || inOrder T i k
        | _ => true)) &&
      (!touches o.op || W.all fun w => w == i || inOrder T i w || (isLoad o.op && R.elem i && A.elem w)) &&
      (!isLoad o.op || !W.elem i) &&
      (touches o.op || !W.elem i)

/-! ### The run in the text's order -/

def tsF (ops : List Oper) (vs : Nat → AV) (t : Nat → AV) : Nat → Nat → AV
  | 0 => t
  | k + 1 => match ops[k]? with
    | some o => putT (tsF ops vs t k) o.dst (vs k)
    | none => tsF ops vs t k

/-- The frame with only some done. -/
def fdF (ops : List Oper) (vs : Nat → AV) (t : Nat → AV) (done : Nat → Bool) : Nat → Nat → AV
  | 0 => t
  | k + 1 => match ops[k]? with
    | some o => if done k then putT (fdF ops vs t done k) o.dst (vs k) else fdF ops vs t done k
    | none => fdF ops vs t done k

def hdF (hs : Nat → AHeap) (W : List Nat) (done : Nat → Bool) : Nat → AHeap
  | 0 => hs 0
  | k + 1 => if done k && W.elem k then hs (k + 1) else hdF hs W done k

structure StepOk (E : Env) (N : Nat) (D : List (FuncId × List AV)) (ops : Array Oper) (W A R : List Nat) (n0 : Nat) (i : Nat) (o : Oper) (t : Nat → AV) (h : AHeap) (v : AV) (h' : AHeap) : Prop where
  dst : dstB N o.dst = true
  keep : W.elem i = false → h' = h
  grow : A.elem i = true → ∀ id, id < n0 → h'[id]? = h[id]?
  step : (gval (ops.toList.map (·.dst)) (mask (looks (ops.toList.map (·.dst)) o.op o.guard) t) o.guard = some false ∧ v = .tu [] ∧ h' = h) ∨
    (gval (ops.toList.map (·.dst)) (mask (looks (ops.toList.map (·.dst)) o.op o.guard) t) o.guard = some true ∧
      (touches o.op = false → ∀ g, OpW E.P ⟨mask (looks (ops.toList.map (·.dst)) o.op o.guard) t, N, D⟩ g o v g) ∧ OpW E.P ⟨mask (looks (ops.toList.map (·.dst)) o.op o.guard) t, N, D⟩ h o v h' ∧
      (isLoad o.op = true → W.elem i = false → R.elem i = true → ∀ g, (∀ id, id < n0 → g[id]? = h[id]?) → OpW E.P ⟨mask (looks (ops.toList.map (·.dst)) o.op o.guard) t, N, D⟩ g o v g))

section
variable {ops : List Oper} {vs : Nat → AV} {t : Nat → AV} {done : Nat → Bool} {T W : List Nat}

theorem putT_at (t : Nat → AV) (d : Nat) (v : AV) (x : Nat) : putT t (some d) v x = if x = d then v else t x := by
  show (bif Nat.beq x d then v else t x) = _
  cases hb : Nat.beq x d with
  | true => rw [if_pos (Nat.eq_of_beq_eq_true hb)]; rfl
  | false => rw [if_neg (Nat.ne_of_beq_eq_false hb)]; rfl

/-- A slot that is written by done ones alone below i, and by none that is done from i on, is as in the text's order. -/
theorem fd_ts {x i : Nat} (hlow : ∀ k o, k < i → ops[k]? = some o → o.dst = some x → done k = true) (hup : ∀ k o, i ≤ k → ops[k]? = some o → o.dst = some x → done k = false) :
    ∀ n, i ≤ n → fdF ops vs t done n x = tsF ops vs t i x := by
  have low : ∀ k, k ≤ i → fdF ops vs t done k x = tsF ops vs t k x := by
    intro k
    induction k with
    | zero => intro _; rfl
    | succ k ih =>
      intro hk
      simp only [fdF, tsF]
      cases ho : ops[k]? with
      | none => exact ih (by omega)
      | some o =>
        simp only
        cases hd : o.dst with
        | none =>
          cases done k <;> simp [putT, ih (by omega)]
        | some d =>
          by_cases hx : d = x
          · subst hx
            rw [hlow k o (by omega) ho hd]
            simp [putT_at]
          · have hx' : ¬ x = d := fun e => hx e.symm
            cases done k <;> simp [putT_at, hx', ih (by omega)]
  intro n hn
  induction n with
  | zero => have : i = 0 := by omega
            subst this; rfl
  | succ n ih =>
    by_cases hin : i = n + 1
    · rw [hin]; exact low (n + 1) (by omega)
    · have hi : i ≤ n := by omega
      simp only [fdF]
      cases ho : ops[n]? with
      | none => exact ih hi
      | some o =>
        simp only
        cases hd : o.dst with
        | none => cases done n <;> simp [putT, ih hi]
        | some d =>
          by_cases hx : d = x
          · subst hx
            rw [hup n o hi ho hd]
            simpa using ih hi
          · have hx' : ¬ x = d := fun e => hx e.symm
            cases done n <;> simp [putT_at, hx', ih hi]

def upd (done : Nat → Bool) (i : Nat) : Nat → Bool := fun j => if j = i then true else done j

/-- One more is done. -/
theorem fd_up {i : Nat} {o : Oper} (ho : ops[i]? = some o) (hi : done i = false) (hlast : ∀ k o' d, i < k → ops[k]? = some o' → o'.dst = some d → o.dst = some d → done k = false) {n : Nat} (hn : i < n) :
    fdF ops vs t (upd done i) n = putT (fdF ops vs t done n) o.dst (vs i) := by
  have low : ∀ k, k ≤ i → fdF ops vs t (upd done i) k = fdF ops vs t done k := by
    intro k
    induction k with
    | zero => intro _; rfl
    | succ k ih =>
      intro hk
      have : upd done i k = done k := by simp [upd]; omega
      simp only [fdF, this, ih (by omega)]
  have up : ∀ m, fdF ops vs t (upd done i) (i + 1 + m) = putT (fdF ops vs t done (i + 1 + m)) o.dst (vs i) := by
    intro m
    induction m with
    | zero =>
      simp only [Nat.add_zero, fdF, ho, low i (Nat.le_refl _), hi]
      simp [upd]
    | succ m ih =>
      rw [show i + 1 + (m + 1) = (i + 1 + m) + 1 by omega]
      have hne : upd done i (i + 1 + m) = done (i + 1 + m) := by simp [upd]; omega
      simp only [fdF, hne, ih]
      cases ho' : ops[i + 1 + m]? with
      | none => rfl
      | some o' =>
        simp only
        cases hdn : done (i + 1 + m) with
        | false => simp
        | true =>
          simp only [if_true]
          cases hd : o.dst with
          | none => rfl
          | some d =>
            cases hd' : o'.dst with
            | none => rfl
            | some d' =>
              have hdd : d' ≠ d := by
                intro e
                subst e
                have := hlast (i + 1 + m) o' d' (by omega) ho' hd' hd
                rw [hdn] at this
                cases this
              funext x
              simp only [putT_at]
              by_cases hx : x = d'
              · subst hx; simp [hdd]
              · simp [hx]
  obtain ⟨m, rfl⟩ : ∃ m, n = i + 1 + m := ⟨n - (i + 1), by omega⟩
  exact up m

theorem fd_all {n : Nat} (hall : ∀ k, k < n → done k = true) : fdF ops vs t done n = tsF ops vs t n := by
  induction n with
  | zero => rfl
  | succ n ih =>
    simp only [fdF, tsF, ih fun k hk => hall k (by omega), hall n (by omega), if_true]

variable {hs : Nat → AHeap}

theorem hd_at {i : Nat} (hkeep : ∀ k, W.elem k = false → hs (k + 1) = hs k) (hlow : ∀ k, k < i → W.elem k = true → done k = true) (hup : ∀ k, i ≤ k → W.elem k = true → done k = false) : ∀ n, i ≤ n → hdF hs W done n = hs i := by
  have low : ∀ k, k ≤ i → hdF hs W done k = hs k := by
    intro k
    induction k with
    | zero => intro _; rfl
    | succ k ih =>
      intro hk
      simp only [hdF]
      cases hw : W.elem k with
      | true => rw [hlow k (by omega) hw]; rfl
      | false => simp [ih (by omega), hkeep k hw]
  intro n hn
  induction n with
  | zero => have : i = 0 := by omega
            subst this; rfl
  | succ n ih =>
    by_cases hin : i = n + 1
    · rw [hin]; exact low (n + 1) (by omega)
    · simp only [hdF]
      cases hw : W.elem n with
      | true => rw [hup n (by omega) hw]; simpa using ih (by omega)
      | false => simpa using ih (by omega)

theorem hs_chain {A : List Nat} {n0 : Nat} (hkeep : ∀ k, W.elem k = false → hs (k + 1) = hs k) (hgrow : ∀ k, A.elem k = true → ∀ id, id < n0 → (hs (k + 1))[id]? = (hs k)[id]?) {i : Nat} : ∀ n, i ≤ n → (∀ k, i ≤ k → k < n → W.elem k = true → A.elem k = true) →
    ∀ id, id < n0 → (hs n)[id]? = (hs i)[id]? := by
  intro n hn
  induction n with
  | zero => intro _ id _; have : i = 0 := by omega
            subst this; rfl
  | succ n ih =>
    intro h id hid
    by_cases hin : i = n + 1
    · rw [hin]
    · rw [← ih (by omega) (fun k h1 h2 => h k h1 (by omega)) id hid]
      cases hw : W.elem n with
      | false => rw [hkeep n hw]
      | true => exact hgrow n (h n (by omega) (by omega) hw) id hid

theorem hd_old {A : List Nat} {n0 i : Nat} (hkeep : ∀ k, W.elem k = false → hs (k + 1) = hs k) (hgrow : ∀ k, A.elem k = true → ∀ id, id < n0 → (hs (k + 1))[id]? = (hs k)[id]?) (hlow : ∀ k, k < i → W.elem k = true → A.elem k = false → done k = true)
    (hup : ∀ k, i ≤ k → W.elem k = true → A.elem k = false → done k = false) (htot : ∀ k n, k < n → W.elem k = true → W.elem n = true → done n = true → done k = true) : ∀ n, i ≤ n → ∀ id, id < n0 → (hdF hs W done n)[id]? = (hs i)[id]? := by
  have low : ∀ k, k ≤ i → ∀ id, id < n0 → (hdF hs W done k)[id]? = (hs k)[id]? := by
    intro k
    induction k with
    | zero => intro _ id _; rfl
    | succ k ih =>
      intro hk id hid
      simp only [hdF]
      cases hw : W.elem k with
      | true =>
        cases hdk : done k with
        | true => rfl
        | false =>
          cases ha : A.elem k with
          | true => simp only [Bool.false_and, Bool.false_eq_true, if_false]; rw [ih (by omega) id hid, hgrow k ha id hid]
          | false => rw [hlow k (by omega) hw ha] at hdk; cases hdk
      | false => simp only [Bool.and_false, Bool.false_eq_true, if_false]; rw [ih (by omega) id hid, hkeep k hw]
  intro n hn
  induction n with
  | zero => have : i = 0 := by omega
            subst this; exact low 0 (Nat.le_refl _)
  | succ n ih =>
    by_cases hin : i = n + 1
    · rw [hin]; rw [hin] at low; exact low (n + 1) (by omega)
    · intro id hid
      simp only [hdF]
      cases hw : W.elem n with
      | false => simp only [Bool.and_false, Bool.false_eq_true, if_false]; exact ih (by omega) id hid
      | true =>
        cases hdn : done n with
        | false => simp only [Bool.false_and, Bool.false_eq_true, if_false]; exact ih (by omega) id hid
        | true =>
          simp only [Bool.and_self, if_true]
          refine hs_chain hkeep hgrow (n + 1) (by omega) (fun k h1 h2 h3 => ?_) id hid
          cases ha : A.elem k with
          | true => rfl
          | false =>
            have hdk : done k = true := by
              by_cases hkn : k = n
              · rw [hkn]; exact hdn
              · exact htot k n (by omega) h3 hw hdn
            rw [hup k h1 h3 ha] at hdk; cases hdk

theorem hd_up_keep {i : Nat} (hw : W.elem i = false) : ∀ n, hdF hs W (upd done i) n = hdF hs W done n := by
  intro n
  induction n with
  | zero => rfl
  | succ n ih =>
    simp only [hdF, ih]
    by_cases hn : n = i
    · subst hn; simp only [hw, Bool.and_false]
    · simp [upd, hn]

theorem hd_up_write {i : Nat} (hw : W.elem i = true) (hup : ∀ k, i < k → W.elem k = true → done k = false) : ∀ n, i < n → hdF hs W (upd done i) n = hs (i + 1) := by
  intro n hn
  induction n with
  | zero => omega
  | succ n ih =>
    simp only [hdF]
    by_cases hni : n = i
    · subst hni; rw [hw]; simp [upd]
    · have : upd done i n = done n := by simp [upd, hni]
      rw [this]
      cases hwn : W.elem n with
      | true => rw [hup n (by omega) hwn]; simpa using ih (by omega)
      | false => simpa using ih (by omega)

theorem hd_all {n : Nat} (hkeep : ∀ k, W.elem k = false → hs (k + 1) = hs k) (hall : ∀ k, k < n → done k = true) : hdF hs W done n = hs n := by
  induction n with
  | zero => rfl
  | succ n ih =>
    simp only [hdF, ih fun k hk => hall k (by omega), hall n (by omega)]
    cases hw : W.elem n with
    | true => rfl
    | false => simp [hkeep n hw]
end

/-- How many are not done. -/
def undone (done : Nat → Bool) : Nat → Nat
  | 0 => 0
  | n + 1 => undone done n + (if done n then 0 else 1)

theorem undone_zero {done : Nat → Bool} : ∀ {n : Nat}, undone done n = 0 → ∀ k, k < n → done k = true
  | 0, _, k, hk => by omega
  | n + 1, h, k, hk => by
    simp only [undone] at h
    by_cases hkn : k = n
    · subst hkn
      cases hd : done k with
      | true => rfl
      | false => rw [hd] at h; simp at h
    · exact undone_zero (n := n) (by omega) k (by omega)

theorem undone_up {done : Nat → Bool} {i : Nat} (hi : done i = false) : ∀ {n : Nat}, i < n → undone done n = undone (upd done i) n + 1
  | 0, h => by omega
  | n + 1, h => by
    simp only [undone]
    by_cases hin : i = n
    · subst hin
      have : ∀ m, m ≤ i → undone (upd done i) m = undone done m := by
        intro m
        induction m with
        | zero => intro _; rfl
        | succ m ih =>
          intro hm
          have : upd done i m = done m := by simp [upd]; omega
          simp only [undone, this, ih (by omega)]
      rw [this i (Nat.le_refl _), hi]
      simp [upd]
    · have h1 := undone_up hi (n := n) (by omega)
      have : upd done i n = done n := by simp [upd]; omega
      rw [h1, this]
      omega

theorem undone_all (n : Nat) : undone (fun _ => false) n = n := by
  induction n with
  | zero => rfl
  | succ n ih => simp [undone, ih]

theorem mask_eq {X : List Nat} {t t' : Nat → AV} (h : ∀ x, X.elem x = true → t x = t' x) : mask X t = mask X t' := by
  funext j
  show (bif X.elem j then t j else .undef) = (bif X.elem j then t' j else .undef)
  cases hj : X.elem j with
  | true => rw [h j hj]
  | false => rfl

theorem AR.mask {κ : Cx} {t : Nat → AV} {N : Nat} {D : List (FuncId × List AV)} {act : Act} (ha : AR κ ⟨t, N, D⟩ act) (X : List Nat) : AR κ ⟨S2.mask X t, N, D⟩ act := by
  refine ⟨ha.size, fun j => ?_, ha.d⟩
  show VR κ (bif X.elem j then t j else .undef) _
  cases X.elem j with
  | true => exact ha.t j
  | false => simp [VR]


/-! ### Whatever order -/

theorem ready_spec {ops : Array Oper} {listed : Array Bool} {i : Nat} (h : i ∈ Region.ready .any ops listed) : ∃ o, ops[i]? = some o ∧ i < ops.size ∧ listed.getD i true = false ∧ ∀ e ∈ o.after.toList, Region.binds .any e = true → listed.getD e.on false = true := by
  unfold Region.ready at h
  rw [List.mem_filter] at h
  obtain ⟨h1, h2⟩ := h
  have hlt : i < ops.size := List.mem_range.1 h1
  rw [Bool.and_eq_true] at h2
  rw [Array.getElem?_eq_getElem hlt] at h2 ⊢
  refine ⟨ops[i], rfl, hlt, by simpa using h2.1, fun e he hb => ?_⟩
  have h3 := h2.2
  simp only [Option.map_some, Option.getD_some] at h3
  rw [← Array.all_toList] at h3
  have := List.all_eq_true.1 h3 e he
  rw [hb] at this
  simpa using this

theorem ready_nil {ops : Array Oper} {listed : Array Bool} (h : Region.ready .any ops listed = []) (hedge : ∀ i o, ops[i]? = some o → ∀ e ∈ o.after.toList, Region.binds .any e = true → e.on < i) (hs : listed.size = ops.size) :
    ∀ i, i < ops.size → listed.getD i true = true := by
  intro i
  induction i using Nat.strongRecOn with
  | _ i ih =>
    intro hi
    cases hl : listed.getD i true with
    | true => rfl
    | false =>
      have : i ∈ Region.ready .any ops listed := by
        unfold Region.ready
        rw [List.mem_filter]
        refine ⟨List.mem_range.2 hi, ?_⟩
        rw [hl, Array.getElem?_eq_getElem hi]
        simp only [Bool.not_false, Bool.true_and, Option.map_some, Option.getD_some]
        rw [← Array.all_toList, List.all_eq_true]
        intro e he
        cases hb : Region.binds .any e with
        | false => rfl
        | true =>
          have hon := hedge i ops[i] (Array.getElem?_eq_getElem hi) e he hb
          have h2 := ih e.on hon (by omega)
          rw [Array.getD_eq_getD_getElem?, Array.getElem?_eq_getElem (by omega)] at h2
          simp only [Bool.not_true, Bool.false_or]
          rw [Array.getD_eq_getD_getElem?, Array.getElem?_eq_getElem (by omega)]
          exact h2
      rw [h] at this
      cases this

structure Dok (ops : List Oper) (T W A R : List Nat) : Prop where
  edge : ∀ i o, ops[i]? = some o → ∀ e ∈ o.after.toList, Region.binds .any e = true → e.on < i
  close : ∀ i o j, ops[i]? = some o → j < ops.length → prec T j i = true → ∃ e ∈ o.after.toList, Region.binds .any e = true ∧ (e.on = j ∨ prec T j e.on = true)
  slots : ∀ i o k ok d, ops[i]? = some o → ops[k]? = some ok → k ≠ i → ok.dst = some d → ((looks (ops.map (·.dst)) o.op o.guard).elem d = true ∨ o.dst = some d) → inOrder T i k = true
  heap : ∀ i o w, ops[i]? = some o → touches o.op = true → W.elem w = true → w ≠ i → inOrder T i w = true ∨ (isLoad o.op = true ∧ R.elem i = true ∧ A.elem w = true)
  load : ∀ i o, ops[i]? = some o → isLoad o.op = true → W.elem i = false
  pure : ∀ i o, ops[i]? = some o → touches o.op = false → W.elem i = false

theorem Dok.of {ops : List Oper} {T W A R : List Nat} (h : dok ops T W A R = true) : Dok ops T W A R := by
  unfold dok at h
  rw [List.all_eq_true] at h
  have at_ : ∀ i o, ops[i]? = some o → _ := fun i o ho => by
    have h1 := h i (List.mem_range.2 (List.getElem?_eq_some_iff.1 ho).1)
    rw [ho] at h1
    simp only [Bool.and_eq_true] at h1
    exact h1
  refine ⟨fun i o ho e he hb => ?_, fun i o j ho hj hp => ?_, fun i o k ok d ho hk hki hd hl => ?_, fun i o w ho ht hw hwi => ?_, fun i o ho hl => ?_, fun i o ho ht => ?_⟩
  · have := List.all_eq_true.1 (at_ i o ho).1.1.1.1.1 e he
    rw [hb] at this
    simpa using this
  · have := List.all_eq_true.1 (at_ i o ho).1.1.1.1.2 j (List.mem_range.2 hj)
    rw [hp] at this
    simp only [Bool.not_true, Bool.false_or, List.any_eq_true, Bool.and_eq_true, Bool.or_eq_true, beq_iff_eq] at this
    exact this
  · have := List.all_eq_true.1 (at_ i o ho).1.1.1.2 k (List.mem_range.2 (List.getElem?_eq_some_iff.1 hk).1)
    rw [List.getElem?_map, hk] at this
    simp only [Option.map_some, hd, Bool.or_eq_true, beq_iff_eq, Bool.and_eq_true, Bool.not_eq_true'] at this
    rcases this with h1 | h1
    · exact absurd h1 hki
    · rcases h1 with h1 | h1
      · rcases hl with h2 | h2
        · rw [h2] at h1; cases h1.1
        · rw [h2] at h1; simp at h1
      · exact h1
  · have := (at_ i o ho).1.1.2
    rw [ht] at this
    simp only [Bool.not_true, Bool.false_or, List.all_eq_true, Bool.or_eq_true, beq_iff_eq, Bool.and_eq_true] at this
    rcases this w (List.elem_iff.1 hw) with (h1 | h1) | h1
    · exact absurd h1 hwi
    · exact .inl h1
    · exact .inr ⟨h1.1.1, h1.1.2, h1.2⟩
  · have := (at_ i o ho).1.2
    rw [hl] at this
    simpa using this
  · have := (at_ i o ho).2
    rw [ht] at this
    simpa using this

/-- The operation that panics, if one does. -/
structure PanicOk (E : Env) (N : Nat) (D : List (FuncId × List AV)) (ops : Array Oper) (W : List Nat) (Q : AX → AF → AHeap → Prop) (i : Nat) (o : Oper) (t : Nat → AV) (h : AHeap) : Prop where
  writes : W.elem i = true
  guard : gval (ops.toList.map (·.dst)) (mask (looks (ops.toList.map (·.dst)) o.op o.guard) t) o.guard = some true
  step : ∃ v h', OpP E.P ⟨mask (looks (ops.toList.map (·.dst)) o.op o.guard) t, N, D⟩ h o v h' ∧ ∀ t', Q (.panic v) ⟨t', N, D⟩ h'

theorem draw_any {m : Nat} {E : Env} {N : Nat} {D : List (FuncId × List AV)} {ops : Array Oper} {T W A R : List Nat} {n0 : Nat} (hd : Dok ops.toList T W A R) {vs : Nat → AV} {hs : Nat → AHeap} {t : Nat → AV}
    (hkeep : ∀ k, W.elem k = false → hs (k + 1) = hs k)
    (hgrow : ∀ k, A.elem k = true → ∀ id, id < n0 → (hs (k + 1))[id]? = (hs k)[id]?) (hlim : ∀ k, W.elem k = true → k < ops.size)
    (px : Option Nat) {Q : AX → AF → AHeap → Prop}
    (hst : ∀ i o, ops[i]? = some o → (∃ p, px = some p ∧ prec T p i = true) ∨ StepOk E N D ops W A R n0 i o (tsF ops.toList vs t i) (hs i) (vs i) (hs (i + 1)) ∨ (px = some i ∧ PanicOk E N D ops W Q i o (tsF ops.toList vs t i) (hs i)))
    (hpx : ∀ p, px = some p → p < ops.size ∧ ∀ o, ops[p]? = some o → PanicOk E N D ops W Q p o (tsF ops.toList vs t p) (hs p)) (hq : px = none → Q .normal ⟨tsF ops.toList vs t ops.size, N, D⟩ (hs ops.size))
    {κ0 : Cx} {h0 : AHeap} {w0 : World} (hm0 : m ≤ κ0.pl.length) :
    ∀ (fuel : Nat) (listed : Array Bool) (done : Nat → Bool), (∀ p, px = some p → done p = false) → listed.size = ops.size → (∀ i, i < ops.size → listed.getD i true = done i) → (∀ i, ops.size ≤ i → done i = false) → (∀ i j, i < ops.size → j < ops.size → prec T j i = true → done i = true → done j = true) → undone done ops.size = fuel →
      ∀ κ act w, AR κ ⟨fdF ops.toList vs t done ops.size, N, D⟩ act → HR E.P κ (hdF hs W done ops.size) w → Fr κ0 h0 w0 κ (hdF hs W done ops.size) w → wpAny E.P .any ops (PostR E.P m κ0 h0 w0 Q) fuel listed act w := by
  have hedge : ∀ i o, ops[i]? = some o → ∀ e ∈ o.after.toList, Region.binds .any e = true → e.on < i := fun i o ho => hd.edge i o (by simpa using ho)
  have finish : ∀ (listed : Array Bool) (done : Nat → Bool), (∀ p, px = some p → done p = false) → (∀ i, i < ops.size → done i = true) → ∀ κ act w, AR κ ⟨fdF ops.toList vs t done ops.size, N, D⟩ act → HR E.P κ (hdF hs W done ops.size) w → Fr κ0 h0 w0 κ (hdF hs W done ops.size) w →
      PostR E.P m κ0 h0 w0 Q .normal act w := by
    intro listed done hnp hall κ act w ha hh hf
    rw [fd_all hall] at ha
    rw [hd_all hkeep hall] at hh hf
    have hpn : px = none := by
      cases hp : px with
      | none => rfl
      | some p => have h1 := hnp p hp; rw [hall p (hpx p hp).1] at h1; cases h1
    exact ⟨.normal, κ, _, _, rfl, ha, hh, hf.k hm0, hq hpn⟩
  intro fuel
  induction fuel with
  | zero =>
    intro listed done hnp hsz hld hout hcl hfuel κ act w ha hh hf
    have hall := undone_zero hfuel
    refine ⟨?_, finish listed done hnp hall κ act w ha hh hf⟩
    cases hr : Region.ready .any ops listed with
    | nil => rfl
    | cons i r =>
      obtain ⟨o, ho, hi, hl, _⟩ := ready_spec (i := i) (ops := ops) (listed := listed) (by rw [hr]; exact List.mem_cons_self ..)
      rw [hld i hi, hall i hi] at hl
      cases hl
  | succ fuel ih =>
    intro listed done hnp hsz hld hout hcl hfuel κ act w ha hh hf
    refine ⟨fun hr => ?_, fun i hi => ?_⟩
    · have hall := ready_nil hr hedge hsz
      exact finish listed done hnp (fun i hi => by rw [← hld i hi]; exact hall i hi) κ act w ha hh hf
    · obtain ⟨o, ho, hlt, hl, hpre⟩ := ready_spec hi
      have hdi : done i = false := by rw [← hld i hlt]; exact hl
      have hol : ops.toList[i]? = some o := by simpa using ho
      -- what is ahead of i is done, what is behind it is not
      have ahead : ∀ j, j < ops.size → prec T j i = true → done j = true := by
        intro j hj hp
        obtain ⟨e, he, hb, h1⟩ := hd.close i o j hol (by simpa using hj) hp
        have hon := hedge i o ho e he hb
        have hdone : done e.on = true := by
          have := hpre e he hb
          rw [Array.getD_eq_getD_getElem?, Array.getElem?_eq_getElem (by omega)] at this
          rw [← hld e.on (by omega), Array.getD_eq_getD_getElem?, Array.getElem?_eq_getElem (by omega)]
          exact this
        rcases h1 with rfl | h1
        · exact hdone
        · exact hcl e.on j (by omega) hj h1 hdone
      have behind : ∀ j, prec T i j = true → done j = false := by
        intro j hp
        cases hdj : done j with
        | false => rfl
        | true =>
          by_cases hj : j < ops.size
          · rw [hcl j i hj hlt hp hdj] at hdi; cases hdi
          · rw [hout j (by omega)] at hdj; cases hdj
      have low : ∀ k o' d, k < i → ops.toList[k]? = some o' → o'.dst = some d → ((looks (ops.toList.map (·.dst)) o.op o.guard).elem d = true ∨ o.dst = some d) → done k = true := by
        intro k o' d hk hk' hd' hl'
        have := hd.slots i o k o' d hol hk' (by omega) hd' hl'
        unfold inOrder at this
        rw [if_neg (by omega)] at this
        exact ahead k (by omega) this
      have high : ∀ k o' d, i < k → ops.toList[k]? = some o' → o'.dst = some d → ((looks (ops.toList.map (·.dst)) o.op o.guard).elem d = true ∨ o.dst = some d) → done k = false := by
        intro k o' d hk hk' hd' hl'
        have := hd.slots i o k o' d hol hk' (by omega) hd' hl'
        unfold inOrder at this
        rw [if_pos hk] at this
        exact behind k this
      have hmask : mask (looks (ops.toList.map (·.dst)) o.op o.guard) (fdF ops.toList vs t done ops.size) = mask (looks (ops.toList.map (·.dst)) o.op o.guard) (tsF ops.toList vs t i) := by
        refine mask_eq fun x hx => fd_ts (fun k o' hk ho' hd' => low k o' x hk ho' hd' (.inl hx)) (fun k o' hk ho' hd' => ?_) _ (by omega)
        by_cases hki : k = i
        · rw [hki]; exact hdi
        · exact high k o' x (by omega) ho' hd' (.inl hx)
      have hframe : fdF ops.toList vs t (upd done i) ops.size = putT (fdF ops.toList vs t done ops.size) o.dst (vs i) :=
        fd_up hol hdi (fun k o' d hk ho' hd' hd => high k o' d hk ho' hd' (.inr hd)) hlt
      have hst0 := hst i o ho
      have ham := ha.mask (looks (ops.toList.map (·.dst)) o.op o.guard)
      rw [hmask] at ham
      -- the rest, from the state behind i
      have rest : px ≠ some i → DstOk ⟨fdF ops.toList vs t done ops.size, N, D⟩ o.dst → ∀ {val w' κ'}, VR κ' (vs i) val → HR E.P κ' (hdF hs W (upd done i) ops.size) w' → Fr κ (hdF hs W done ops.size) w κ' (hdF hs W (upd done i) ops.size) w' →
          wpAny E.P .any ops (PostR E.P m κ0 h0 w0 Q) fuel (listed.setIfInBounds i true) (act.put o.dst val) w' := by
        intro hpi hdst val w' κ' hv hh' hf'
        refine ih (listed.setIfInBounds i true) (upd done i) (fun p hp => by
          have hne : p ≠ i := fun e => hpi (e ▸ hp)
          simp only [upd, hne, if_false]; exact hnp p hp) (by simp [hsz]) (fun j hj => ?_) (fun j hj => ?_) (fun j k hj hk hp hdj => ?_) ?_ κ' _ w' ?_ hh' (hf.trans hf')
        · rw [Array.getD_eq_getD_getElem?]
          by_cases hji : j = i
          · subst hji
            rw [Array.getElem?_setIfInBounds_self_of_lt (by omega)]
            simp [upd]
          · rw [Array.getElem?_setIfInBounds_ne (Ne.symm hji), ← Array.getD_eq_getD_getElem?, hld j hj]
            simp [upd, hji]
        · have : j ≠ i := by omega
          simp [upd, this, hout j hj]
        · by_cases hji : j = i
          · subst hji
            by_cases hki : k = j
            · subst hki; simp [upd]
            · simp [upd, hki, ahead k hk hp]
          · simp only [upd, hji, if_false] at hdj
            have := hcl j k hj hk hp hdj
            by_cases hki : k = i
            · subst hki; simp [upd]
            · simp [upd, hki, this]
        · have := undone_up hdi hlt
          omega
        · have := (hf'.ar ha).put hdst hv
          rw [putT_put] at this
          rw [hframe]
          exact this
      -- the heap at i
      have hheap : touches o.op = true → (isLoad o.op && R.elem i) = false → hdF hs W done ops.size = hs i := by
        intro ht hnr
        have hin : ∀ k, W.elem k = true → k ≠ i → inOrder T i k = true := fun k hw hki => by
          rcases hd.heap i o k hol ht hw hki with h1 | ⟨h1, h2, _⟩
          · exact h1
          · rw [h1, h2] at hnr; cases hnr
        refine hd_at hkeep (fun k hk hw => ?_) (fun k hk hw => ?_) _ (by omega)
        · have := hin k hw (by omega)
          unfold inOrder at this
          rw [if_neg (by omega)] at this
          exact ahead k (by omega) this
        · by_cases hki : k = i
          · rw [hki]; exact hdi
          · have := hin k hw hki
            unfold inOrder at this
            rw [if_pos (by omega)] at this
            exact behind k this
      have hold : touches o.op = true → (isLoad o.op && R.elem i) = true → ∀ id, id < n0 → (hdF hs W done ops.size)[id]? = (hs i)[id]? := by
        intro ht hnr
        simp only [Bool.and_eq_true] at hnr
        have hin : ∀ k, W.elem k = true → A.elem k = false → k ≠ i → inOrder T i k = true := fun k hw ha hki => by
          rcases hd.heap i o k hol ht hw hki with h1 | ⟨_, _, h1⟩
          · exact h1
          · rw [h1] at ha; cases ha
        refine hd_old hkeep hgrow (fun k hk hw ha => ?_) (fun k hk hw ha => ?_) (fun k n hkn hw1 hw2 hdn => ?_) _ (by omega)
        · have := hin k hw ha (by omega)
          unfold inOrder at this
          rw [if_neg (by omega)] at this
          exact ahead k (by omega) this
        · by_cases hki : k = i
          · rw [hki]; exact hdi
          · have := hin k hw ha hki
            unfold inOrder at this
            rw [if_pos (by omega)] at this
            exact behind k this
        · have hn : n < ops.size := hlim n hw2
          have hnl : ops.toList[n]? = some ops[n] := by simp [hn]
          have htn : touches ops[n].op = true := by
            cases htn : touches ops[n].op with
            | true => rfl
            | false => rw [hd.pure n _ hnl htn] at hw2; cases hw2
          have : inOrder T n k = true := by
            rcases hd.heap n _ k hnl htn hw1 (by omega) with h1 | ⟨h1, _, _⟩
            · exact h1
            · rw [hd.load n _ hnl h1] at hw2; cases hw2
          unfold inOrder at this
          rw [if_neg (by omega)] at this
          exact hcl n k hn (hlim k hw1) this hdn
      have hheap' : hdF hs W (upd done i) ops.size = hs (i + 1) ∧ W.elem i = true ∨ W.elem i = false ∧ hdF hs W (upd done i) ops.size = hdF hs W done ops.size := by
        cases hw : W.elem i with
        | false => exact .inr ⟨rfl, hd_up_keep hw _⟩
        | true =>
          refine .inl ⟨hd_up_write hw (fun k hk hwk => ?_) _ hlt, rfl⟩
          have ht : touches o.op = true := by
            cases ht : touches o.op with
            | true => rfl
            | false => rw [hd.pure i o hol ht] at hw; cases hw
          have : inOrder T i k = true := by
            rcases hd.heap i o k hol ht hwk (by omega) with h1 | ⟨h1, _, _⟩
            · exact h1
            · rw [hd.load i o hol h1] at hw; cases hw
          unfold inOrder at this
          rw [if_pos (by omega)] at this
          exact behind k this
      have hwr : W.elem i = true → touches o.op = true ∧ (isLoad o.op && R.elem i) = false := by
        intro hw
        constructor
        · cases ht : touches o.op with
          | true => rfl
          | false => rw [hd.pure i o hol ht] at hw; cases hw
        · cases hl : isLoad o.op with
          | false => rfl
          | true => rw [hd.load i o hol hl] at hw; cases hw
      unfold wpOp
      simp only [ho]
      rcases hst0 with ⟨p, hp, hpre'⟩ | st | ⟨hpi, pk⟩
      · have := hnp p hp
        rw [ahead p (hpx p hp).1 hpre'] at this
        cases this
      rotate_left
      · have hw := pk.writes
        obtain ⟨v, h', hop, hQ⟩ := pk.step
        have hga := gval_aguard (N := N) (D := D) pk.guard
        rw [if_pos (aguard_rel ham hga)]
        refine .inl ?_
        rw [hheap (hwr hw).1 (hwr hw).2] at hh hf
        refine hop κ act w ham hh _ _ ?_
        intro val w' κ' hv hh' hf'
        exact ⟨.panic v, κ', _, h', ⟨val, rfl, hv⟩, hf'.ar ha, hh', (hf.trans hf').k hm0, hQ _⟩
      by_cases hpi : px = some i
      · obtain ⟨hpl, hpk⟩ := hpx i hpi
        have pk := hpk o ho
        have hw := pk.writes
        obtain ⟨v, h', hop, hQ⟩ := pk.step
        have hga := gval_aguard (N := N) (D := D) pk.guard
        rw [if_pos (aguard_rel ham hga)]
        refine .inl ?_
        rw [hheap (hwr hw).1 (hwr hw).2] at hh hf
        refine hop κ act w ham hh _ _ ?_
        intro val w' κ' hv hh' hf'
        exact ⟨.panic v, κ', _, h', ⟨val, rfl, hv⟩, hf'.ar ha, hh', (hf.trans hf').k hm0, hQ _⟩
      have hdst := dstB_ok st.dst (fdF ops.toList vs t done ops.size) D
      have rest := @rest hpi hdst
      rcases st.step with ⟨hg, hv, hh2⟩ | ⟨hg, hpure, hstep, hrelax⟩
      · have hga := gval_aguard (N := N) (D := D) hg
        rw [if_neg (by rw [aguard_rel ham hga]; simp)]
        have hkeep' : hdF hs W (upd done i) ops.size = hdF hs W done ops.size := by
          rcases hheap' with ⟨h1, hw⟩ | h1
          · rw [h1, hheap (hwr hw).1 (hwr hw).2, hh2]
          · exact h1.2
        refine rest (by rw [hv]; exact undef_rel κ) (by rw [hkeep']; exact hh) (by rw [hkeep']; exact Fr.refl _ _ _)
      · have hga := gval_aguard (N := N) (D := D) hg
        rw [if_pos (aguard_rel ham hga)]
        refine .inl ?_
        cases ht : touches o.op with
        | false =>
          have hw := hd.pure i o hol ht
          have hk := hd_up_keep (hs := hs) (done := done) hw ops.size
          refine hpure ht (hdF hs W done ops.size) κ act w ham hh _ _ ?_
          intro val w' κ' hv hh' hf'
          exact rest hv (by rw [hk]; exact hh') (by rw [hk]; exact hf')
        | true =>
          cases hnr : (isLoad o.op && R.elem i) with
          | false =>
            have he := hheap ht hnr
            rw [he] at hh
            refine hstep κ act w ham hh _ _ ?_
            intro val w' κ' hv hh' hf'
            have he' : hdF hs W (upd done i) ops.size = hs (i + 1) := by
              rcases hheap' with ⟨h1, _⟩ | ⟨h1, h2⟩
              · exact h1
              · rw [h2, he, st.keep h1]
            exact rest hv (by rw [he']; exact hh') (by rw [he', he]; exact hf')
          | true =>
            have hnr' := hnr
            simp only [Bool.and_eq_true] at hnr'
            have hw := hd.load i o hol hnr'.1
            have hk := hd_up_keep (hs := hs) (done := done) hw ops.size
            refine hrelax hnr'.1 hw hnr'.2 (hdF hs W done ops.size) (hold ht hnr) κ act w ham hh _ _ ?_
            intro val w' κ' hv hh' hf'
            exact rest hv (by rw [hk]; exact hh') (by rw [hk]; exact hf')

end Go.S2
