/- The state read in another way: objects forgotten, numbered anew, frozen; a call in a greater heap. -/
import Derived.Test.YtabobghngfmilaaDoorS2G
set_option linter.unusedSimpArgs false
set_option linter.unusedVariables false
namespace Go.S2
variable {P : Program}

/-! ### Values under other numbers: the recursors themselves, so that the kernel unfolds them as whnf does -/

mutual
def AV.ren (f : Nat → Option Nat) : AV → AV
  | .undef => .undef
  | .b x => .b x
  | .i k n => .i k n
  | .s x => .s x
  | .p none => .p none
  | .p (some (i, o)) => match f i with | some j => .p (some (j, o)) | none => .undef
  | .ip cs => .ip cs
  | .sl none l e t => .sl none l e t
  | .sl (some (i, o)) l e t => match f i with | some j => .sl (some (j, o)) l e t | none => .undef
  | .im cs l => .im cs l
  | .fn g first caps => .fn g (renL f first) (renL f caps)
  | .nofn => .nofn
  | .ifc t v => .ifc t (v.ren f)
  | .noif => .noif
  | .ag cs => .ag (renL f cs)
  | .tu vs => .tu (renL f vs)
def renL (f : Nat → Option Nat) : List AV → List AV
  | [] => []
  | x :: xs => x.ren f :: renL f xs
end

theorem renL_map (f : Nat → Option Nat) : ∀ l, renL f l = l.map (AV.ren f)
  | [] => rfl
  | x :: xs => by simp [renL, renL_map f xs]

theorem renL_len (f : Nat → Option Nat) (l : List AV) : (renL f l).length = l.length := by rw [renL_map]; simp

/-- Where numbers are turned, what lies at the one lies at the other. -/
structure Ren (f : Nat → Option Nat) (κ κ' : Cx) : Prop where
  pl : ∀ i j, f i = some j → ∀ pl, κ.pl[i]? = some pl → κ'.pl[j]? = some pl
  fz : ∀ b c, κ.fz b = some c → κ'.fz b = some c

theorem Ren.bare {f : Nat → Option Nat} {κ κ' : Cx} (r : Ren f κ κ') : Cx.le ⟨[], κ.fz⟩ ⟨[], κ'.fz⟩ := ⟨⟨[], rfl⟩, r.fz⟩

mutual
theorem VR.ren {f : Nat → Option Nat} {κ κ' : Cx} (r : Ren f κ κ') : ∀ {x : AV} {v : Value}, VR κ x v → VR κ' (x.ren f) v
  | .undef, _, _ => by simp [AV.ren, VR]
  | .b _, _, h => by simpa [AV.ren, VR] using h
  | .i _ _, _, h => by simpa [AV.ren, VR] using h
  | .s _, _, h => by simpa [AV.ren, VR] using h
  | .p none, _, h => by simpa [AV.ren, VR] using h
  | .p (some (i, o)), _, h => by
    simp only [VR] at h
    simp only [AV.ren]
    cases hf : f i with
    | none => simp [VR]
    | some j =>
      obtain ⟨pl, h1, h2⟩ := h
      simp only [VR]
      exact ⟨pl, r.pl i j hf pl h1, h2⟩
  | .ip cs, _, h => by
    simp only [AV.ren]
    simp only [VR] at h ⊢
    obtain ⟨blk, base, c, h1, h2, h3, h4⟩ := h
    exact ⟨blk, base, c, r.fz _ _ h1, h2, h3, h4.le r.bare⟩
  | .sl none _ _ _, _, h => by simpa [AV.ren, VR] using h
  | .sl (some (i, o)) _ _ _, _, h => by
    simp only [VR] at h
    simp only [AV.ren]
    cases hf : f i with
    | none => simp [VR]
    | some j =>
      simp only [VR]
      rcases h with ⟨g1, g2, ⟨pl, g3⟩, g4⟩ | ⟨pl, cap, h1, h2⟩
      · exact .inl ⟨g1, g2, ⟨pl, r.pl i j hf pl g3⟩, g4⟩
      · exact .inr ⟨pl, cap, r.pl i j hf pl h1, h2⟩
  | .im cs len, _, h => by
    simp only [AV.ren]
    simp only [VR] at h ⊢
    rcases h with h | ⟨blk, base, cap, c, h1, h2, h3, h4, h5, h6⟩
    · exact .inl h
    · exact .inr ⟨blk, base, cap, c, r.fz _ _ h1, h2, h3, h4, h5, h6.le r.bare⟩
  | .fn _ _ _, _, h => by
    simp only [AV.ren]
    simp only [VR] at h ⊢
    obtain ⟨F, C, h1, h2, h3⟩ := h
    exact ⟨F, C, h1, VRL.ren r h2, VRL.ren r h3⟩
  | .nofn, _, h => by simpa [AV.ren, VR] using h
  | .ifc _ _, _, h => by
    simp only [AV.ren]
    simp only [VR] at h ⊢
    obtain ⟨y, h1, h2⟩ := h
    exact ⟨y, h1, VR.ren r h2⟩
  | .noif, _, h => by simpa [AV.ren, VR] using h
  | .ag _, _, h => by
    simp only [AV.ren]
    simp only [VR] at h ⊢
    obtain ⟨C, h1, h2⟩ := h
    exact ⟨C, h1, VRL.ren r h2⟩
  | .tu _, _, h => by
    simp only [AV.ren]
    simp only [VR] at h ⊢
    obtain ⟨C, h1, h2⟩ := h
    exact ⟨C, h1, VRL.ren r h2⟩
theorem VRL.ren {f : Nat → Option Nat} {κ κ' : Cx} (r : Ren f κ κ') : ∀ {xs : List AV} {vs : List Value}, VRL κ xs vs → VRL κ' (renL f xs) vs
  | [], _, h => by simpa [renL, VRL] using h
  | _ :: _, _, h => by
    simp only [renL]
    simp only [VRL] at h ⊢
    obtain ⟨y, ys, h1, h2, h3⟩ := h
    exact ⟨y, ys, h1, VR.ren r h2, VRL.ren r h3⟩
end

/-- An object's cells under other numbers; cells without addresses stay. -/
def AObj.ren (f : Nat → Option Nat) (o : AObj) : AObj :=
  match o.st with
  | .rw => ⟨o.ty, renL f o.cells, .rw⟩
  | .vec => o
  | .frz => o
  | .dead => o

theorem AObj.ren_ty (f : Nat → Option Nat) (o : AObj) : (o.ren f).ty = o.ty := by unfold AObj.ren; split <;> rfl
theorem AObj.ren_st (f : Nat → Option Nat) (o : AObj) : (o.ren f).st = o.st := by unfold AObj.ren; split <;> simp_all
theorem AObj.ren_len (f : Nat → Option Nat) (o : AObj) : (o.ren f).cells.length = o.cells.length := by unfold AObj.ren; split <;> simp [renL_len]

theorem ObjR.ren {f : Nat → Option Nat} {κ κ' : Cx} (r : Ren f κ κ') {o : AObj} {pl : Pl} {w : World} (h : ObjR κ o pl w) (hd : o.st ≠ .dead) : ObjR κ' (o.ren f) pl w := by
  obtain ⟨cur, h1, h2, h3, h4⟩ := h
  refine ⟨cur, by rw [o.ren_ty]; exact h1, h2, by rw [o.ren_len]; exact h3, ?_⟩
  rw [o.ren_len]
  unfold AObj.ren
  cases hst : o.st with
  | rw => rw [hst] at h4; exact h4.ren r
  | vec => simp only [hst]; rw [hst] at h4; exact h4.le r.bare
  | frz => simp only [hst]; rw [hst] at h4; exact h4.le r.bare
  | dead => exact absurd hst hd

/-! ### Another reading of the same world -/

/-- h is read as h', values under g. -/
structure HStep (P : Program) (m : Nat) (h h' : AHeap) (g : AV → AV) : Prop where
  co : ∀ κ w, m ≤ κ.pl.length → HR P κ h w → ∃ κ', HR P κ' h' w ∧ FrK m κ h w κ' h' w ∧ ∀ x v, VR κ x v → VR κ' (g x) v

theorem VRL.map {κ κ' : Cx} {g : AV → AV} (hg : ∀ x v, VR κ x v → VR κ' (g x) v) : ∀ {xs : List AV} {vs : List Value}, VRL κ xs vs → VRL κ' (xs.map g) vs
  | [], _, h => by simpa [VRL] using h
  | _ :: _, _, h => by
    simp only [VRL, List.map_cons] at h ⊢
    obtain ⟨y, ys, h1, h2, h3⟩ := h
    exact ⟨y, ys, h1, hg _ _ h2, VRL.map hg h3⟩

def AE.map (g : AV → AV) : AE → AE
  | .ret v => .ret (g v)
  | .panic v => .panic (g v)

theorem Out.step {m : Nat} {R : AE → AHeap → Prop} {r : AE} {h h' : AHeap} {g : AV → AV} (s : HStep P m h h' g) (o : Out P m R (r.map g) h') : Out P m R r h := by
  refine ⟨fun κ w e hm h1 h2 => ?_⟩
  obtain ⟨κ1, k1, k2, k3⟩ := s.co κ w hm h2
  have he : ER κ1 (r.map g) e := by
    cases r with
    | ret v => obtain ⟨y, rfl, hy⟩ := h1; exact ⟨y, rfl, k3 _ _ hy⟩
    | panic v => obtain ⟨y, rfl, hy⟩ := h1; exact ⟨y, rfl, k3 _ _ hy⟩
  obtain ⟨r', κ', h3, h4, h5, h6, h7⟩ := o.co κ1 w e (k2.len hm) he k1
  exact ⟨r', κ', h3, h4, h5, k2.trans h6, h7⟩

def AF.map (g : AV → AV) (a : AF) : AF := ⟨fun j => g (a.t j), a.n, a.d.map fun x => (x.1, x.2.map g)⟩

theorem AR.map {κ κ' : Cx} {g : AV → AV} (hg : ∀ x v, VR κ x v → VR κ' (g x) v) {a : AF} {act : Act} (ha : AR κ a act) : AR κ' (a.map g) act := by
  refine ⟨ha.size, fun j => hg _ _ (ha.t j), ?_⟩
  have := ha.d
  show DfsR κ' (a.d.map fun x => (x.1, x.2.map g)) act.defers
  generalize a.d = ds at this
  generalize act.defers = es at this
  clear ha
  induction this with
  | nil => exact .nil
  | cons h1 _ ih =>
    obtain ⟨C, A, h2, h3⟩ := h1
    exact .cons ⟨C, A, h2, h3.map hg⟩ ih

theorem SWP.step {m : Nat} {c : Code} {Q : AX → AF → AHeap → Prop} {a : AF} {h h' : AHeap} {g : AV → AV} (s : HStep P m h h' g) (k : SWP m P c Q (a.map g) h') : SWP m P c Q a h := by
  intro κ act w hm ha hh
  obtain ⟨κ1, k1, k2, k3⟩ := s.co κ w hm hh
  exact wp_mono (k κ1 act w (k2.len hm) (ha.map k3) k1) fun _ _ _ p => p.trans k2

theorem SLWP.step {m : Nat} {c : Code} {Q : AX → AF → AHeap → Prop} {a : AF} {h h' : AHeap} {g : AV → AV} (s : HStep P m h h' g) (k : SLWP m P c Q (a.map g) h') : SLWP m P c Q a h := by
  intro κ act w hm ha hh
  obtain ⟨κ1, k1, k2, k3⟩ := s.co κ w hm hh
  exact (k κ1 act w (k2.len hm) (ha.map k3) k1).mono fun _ _ _ p => p.trans k2

/-- Slots may be forgotten. -/
theorem AR.weak {κ : Cx} {a : AF} {t : Nat → AV} {act : Act} (ha : AR κ a act) (ht : ∀ j, t j = a.t j ∨ t j = .undef) : AR κ ⟨t, a.n, a.d⟩ act :=
  ⟨ha.size, fun j => by rcases ht j with e | e <;> simp only [e]; exact ha.t j; simp [VR], ha.d⟩

theorem SLWP.weak {m : Nat} {c : Code} {Q : AX → AF → AHeap → Prop} {a : AF} {t : Nat → AV} {h : AHeap} (ht : ∀ j, t j = a.t j ∨ t j = .undef) (k : SLWP m P c Q ⟨t, a.n, a.d⟩ h) : SLWP m P c Q a h :=
  fun κ act w hm ha hh => k κ act w hm (ha.weak ht) hh

/-! ### Objects are kept, the others forgotten -/

def idx (x : Nat) : List Nat → Nat → Option Nat
  | [], _ => none
  | y :: r, k => match Nat.beq x y with
    | true => some k
    | false => idx x r (k + 1)

theorem idx_get {x : Nat} : ∀ {l : List Nat} {k j : Nat}, idx x l k = some j → k ≤ j ∧ l[j - k]? = some x
  | [], k, j, h => by simp [idx] at h
  | y :: r, k, j, h => by
    unfold idx at h
    split at h
    · rename_i hb
      cases h
      exact ⟨Nat.le_refl _, by simp [Nat.eq_of_beq_eq_true hb]⟩
    · obtain ⟨h1, h2⟩ := idx_get h
      refine ⟨by omega, ?_⟩
      rw [show j - k = (j - (k + 1)) + 1 by omega]
      simpa using h2

/-- The objects l, under the numbers 0, 1, .. -/
def keepH (f : Nat → Option Nat) (h : AHeap) : List Nat → AHeap
  | [] => []
  | i :: r => (match h[i]? with | some o => o.ren f | none => ⟨0, [], .dead⟩) :: keepH f h r

theorem keepH_len (f : Nat → Option Nat) (h : AHeap) : ∀ l, (keepH f h l).length = l.length
  | [] => rfl
  | _ :: r => by simp [keepH, keepH_len f h r]

theorem keepH_get (f : Nat → Option Nat) (h : AHeap) : ∀ {l : List Nat} {k i : Nat} {o : AObj}, l[k]? = some i → h[i]? = some o → (keepH f h l)[k]? = some (o.ren f)
  | [], k, i, o, h1, _ => by simp at h1
  | x :: r, 0, i, o, h1, h2 => by simp at h1; subst h1; simp [keepH, h2]
  | x :: r, k + 1, i, o, h1, h2 => by simp at h1; simp only [keepH, List.getElem?_cons_succ]; exact keepH_get f h h1 h2

def nodupB : List Nat → Bool
  | [] => true
  | x :: r => (idx x r 0).isNone && nodupB r

theorem idx_none {x : Nat} : ∀ {l : List Nat} {k : Nat}, idx x l k = none → x ∉ l
  | [], _, _ => by simp
  | y :: r, k, h => by
    unfold idx at h
    split at h
    · cases h
    · rename_i hb
      intro hm
      rcases List.mem_cons.1 hm with e | e
      · subst e; simp at hb
      · exact idx_none h e

theorem idx_isNone {x : Nat} : ∀ {l : List Nat} {k j : Nat}, (idx x l k).isNone = (idx x l j).isNone
  | [], _, _ => rfl
  | y :: r, k, j => by
    unfold idx
    split
    · rfl
    · exact idx_isNone

theorem nodupB_nodup : ∀ {l : List Nat}, nodupB l = true → l.Nodup
  | [], _ => List.nodup_nil
  | x :: r, h => by
    simp only [nodupB, Bool.and_eq_true, Option.isNone_iff_eq_none] at h
    exact List.nodup_cons.2 ⟨idx_none h.1, nodupB_nodup h.2⟩

/-- l begins with 0, 1, .., m - 1. -/
def headB (m : Nat) (l : List Nat) : Bool := Nat.beq (l.take m).length m && (l.take m == List.range m)

/-- Is this renumbering right? -/
def keepOk (m n : Nat) (l : List Nat) : Bool := nodupB l && (l.take m == List.range m) && l.all fun i => Nat.blt i n

theorem HStep.keep {m : Nat} {h : AHeap} (l : List Nat) (hok : keepOk m h.length l = true) : HStep P m h (keepH (fun i => idx i l 0) h l) (AV.ren fun i => idx i l 0) := by
  unfold keepOk at hok
  simp only [Bool.and_eq_true] at hok
  obtain ⟨⟨hnd, hpre⟩, hlt⟩ := hok
  have hnd := nodupB_nodup hnd
  have hpre : l.take m = List.range m := eq_of_beq hpre
  have hlt : ∀ i ∈ l, i < h.length := fun i hi => Nat.le_of_ble_eq_true (List.all_eq_true.1 hlt i hi)
  refine ⟨fun κ w hm hh => ?_⟩
  have hlen := hh.len
  let κ' : Cx := ⟨l.map fun i => (κ.pl[i]?).getD default, κ.fz⟩
  have hget : ∀ (k : Nat) (pl : Pl), κ'.pl[k]? = some pl → ∃ i, l[k]? = some i ∧ κ.pl[i]? = some pl := by
    intro k pl h1
    simp only [κ', List.getElem?_map] at h1
    cases hl : l[k]? with
    | none => rw [hl] at h1; simp at h1
    | some i =>
      rw [hl] at h1
      have := hlt i (List.mem_of_getElem? hl)
      have hg : κ.pl[i]? = some κ.pl[i] := List.getElem?_eq_getElem (by omega)
      simp only [Option.map_some, hg, Option.getD_some, Option.some.injEq] at h1
      exact ⟨i, rfl, by rw [hg, h1]⟩
  have hput : ∀ (k i : Nat) (pl : Pl), l[k]? = some i → κ.pl[i]? = some pl → κ'.pl[k]? = some pl := by
    intro k i pl h1 h2
    simp [κ', h1, h2]
  have r : Ren (fun i => idx i l 0) κ κ' := ⟨fun i j hij pl hp => hput j i pl (by simpa using (idx_get hij).2) hp, fun _ _ h => h⟩
  have hobj : ∀ (k : Nat) o' pl, (keepH (fun i => idx i l 0) h l)[k]? = some o' → κ'.pl[k]? = some pl → ∃ i o, l[k]? = some i ∧ h[i]? = some o ∧ κ.pl[i]? = some pl ∧ o' = o.ren fun i => idx i l 0 := by
    intro k o' pl h1 h2
    obtain ⟨i, h3, h4⟩ := hget k pl h2
    have h5 := hlt i (List.mem_of_getElem? h3)
    refine ⟨i, h[i], h3, List.getElem?_eq_getElem h5, h4, ?_⟩
    rw [keepH_get _ _ h3 (List.getElem?_eq_getElem h5)] at h1
    exact (Option.some.inj h1).symm
  refine ⟨κ', ⟨by simp [κ', keepH_len], fun k o' pl h1 h2 h3 => ?_, fun k k' o1 o2 pl pl' h1 h2 h3 h4 h5 h6 h7 => ?_, hh.fz, fun k o' pl h1 h2 h3 => ?_, fun k o' pl h1 h2 h3 => ?_, hh.gl⟩, ⟨fun i hi => ?_, fun _ _ h => h, ⟨rfl, rfl, rfl, Nat.le_refl _, fun _ _ _ => rfl, ?_, fun _ _ h => .inl h⟩⟩, fun x v hx => hx.ren r⟩
  · obtain ⟨i, o, g1, g2, g3, rfl⟩ := hobj k o' pl h1 h2
    rw [AObj.ren_st] at h3
    exact (hh.obj i o pl g2 g3 h3).ren r h3
  · obtain ⟨i, oi, g1, g2, g3, rfl⟩ := hobj k o1 pl h1 h3
    obtain ⟨j, oj, k1, k2, k3, rfl⟩ := hobj k' o2 pl' h2 h4
    rw [AObj.ren_st] at h5 h6
    refine hh.excl i j oi oj pl pl' g2 k2 g3 k3 h5 h6 fun e => ?_
    subst e
    exact h7 ((List.getElem?_inj (List.getElem?_eq_some_iff.1 g1).1 hnd).1 (g1.trans k1.symm))
  · obtain ⟨i, o, g1, g2, g3, rfl⟩ := hobj k o' pl h1 h2
    rw [AObj.ren_st] at h3
    exact hh.nofz i o pl g2 g3 h3
  · obtain ⟨i, o, g1, g2, g3, rfl⟩ := hobj k o' pl h1 h2
    rw [AObj.ren_st] at h3
    exact hh.fzo i o pl g2 g3 h3
  · have hl : l[i]? = some i := by
      have : (l.take m)[i]? = some i := by rw [hpre, List.getElem?_range hi]
      rw [List.getElem?_take, if_pos hi] at this
      exact this
    simp only [κ', List.getElem?_map, hl, Option.map_some]
    rw [List.getElem?_eq_getElem (by omega)]
    simp
  · rintro k ⟨i, o', pl, h1, h2, h3, h4⟩
    obtain ⟨j, o, g1, g2, g3, rfl⟩ := hobj i o' pl h1 h2
    rw [AObj.ren_st] at h3
    exact .inl ⟨j, o, pl, g2, g3, h3, h4⟩

/-! ### Objects are frozen -/

def AObj.frz (o : AObj) : AObj := ⟨o.ty, o.cells, .frz⟩

/-- What nobody writes any more: a vec, or cells without addresses. -/
def AObj.frzOk (o : AObj) : Bool :=
  match o.st with
  | .vec => true
  | .frz => true
  | .rw => flatL o.cells
  | .dead => false

theorem HR.frz {κ : Cx} {h : AHeap} {w : World} (hh : HR P κ h w) {id : Nat} {o : AObj} (ho : h[id]? = some o) (hok : o.frzOk = true) : ∃ κ', HR P κ' (h.set id o.frz) w ∧ Fr κ h w κ' (h.set id o.frz) w := by
  obtain ⟨pl, hp⟩ := hh.lt ho
  have hid := (List.getElem?_eq_some_iff.1 ho).1
  have hlive : o.st ≠ .dead := fun e => by unfold AObj.frzOk at hok; rw [e] at hok; cases hok
  obtain ⟨cur, c1, c2, c3, c4⟩ := hh.obj id o pl ho hp hlive
  have hfl : VRL κ.bare o.cells (cur.toList.take o.cells.length) := by
    unfold AObj.frzOk at hok
    cases hst : o.st with
    | rw => rw [hst] at hok c4; exact VRL.flat hok c4
    | vec => rw [hst] at c4; exact c4
    | frz => rw [hst] at c4; exact c4
    | dead => exact absurd hst hlive
  let κ' : Cx := ⟨κ.pl, fun b => if b = pl.blk then some cur.toList else κ.fz b⟩
  have hfz : ∀ b c, κ.fz b = some c → κ'.fz b = some c := by
    intro b c hb
    simp only [κ']
    split
    · rename_i e
      subst e
      obtain ⟨cur', e', z, d1, d2⟩ := hh.fz _ _ hb
      rw [c1] at d1; cases d1; rw [d2]
    · exact hb
  have hle : κ.le κ' := ⟨⟨[], by simp [κ']⟩, hfz⟩
  have hget : ∀ (i : Nat) o', (h.set id o.frz)[i]? = some o' → (i = id ∧ o' = o.frz) ∨ (i ≠ id ∧ h[i]? = some o') := by
    intro i o' h1
    by_cases hi : i = id
    · subst hi
      rw [List.getElem?_set_self hid] at h1
      exact .inl ⟨rfl, (Option.some.inj h1).symm⟩
    · rw [List.getElem?_set_ne (Ne.symm hi)] at h1
      exact .inr ⟨hi, h1⟩
  refine ⟨κ', ⟨by simp [κ', hh.len], fun i o' pl' h1 h2 h3 => ?_, fun i j o1 o2 pl1 pl2 h1 h2 h3 h4 h5 h6 h7 => ?_, fun b c hf => ?_, fun i o' pl' h1 h2 h3 => ?_, fun i o' pl' h1 h2 h3 => ?_, hh.gl.of hfz⟩, ⟨hle, rfl, rfl, rfl, Nat.le_refl _, fun _ _ _ => rfl, ?_, fun b c hb => ?_⟩⟩
  · rcases hget i o' h1 with ⟨rfl, rfl⟩ | ⟨hne, h1⟩
    · rw [show κ'.pl = κ.pl from rfl, hp] at h2; cases h2
      exact ⟨cur, c1, c2, c3, hfl.le hle.bare⟩
    · exact (hh.obj i o' pl' h1 h2 h3).le hle rfl
  · have live : ∀ (x : Nat) ox, (h.set id o.frz)[x]? = some ox → ox.st ≠ .dead → ∃ oy, h[x]? = some oy ∧ oy.st ≠ .dead := by
      intro x ox hx1 hx2
      rcases hget x ox hx1 with ⟨rfl, rfl⟩ | ⟨hne, h1⟩
      · exact ⟨o, ho, hlive⟩
      · exact ⟨ox, h1, hx2⟩
    obtain ⟨oz, b1, b2⟩ := live j o2 h2 h6
    rcases hget i o1 h1 with ⟨rfl, rfl⟩ | ⟨hne, a1⟩
    · cases h5
    · exact hh.excl i j o1 oz pl1 pl2 a1 b1 h3 h4 h5 b2 h7
  · simp only [κ'] at hf
    split at hf
    · rename_i e
      subst e
      cases hf
      exact ⟨cur, o.ty, (0, 0), c1, rfl⟩
    · exact hh.fz b c hf
  · rcases hget i o' h1 with ⟨rfl, rfl⟩ | ⟨hne, h1⟩
    · cases h3
    · have hb := hh.excl i id o' o pl' pl h1 ho h2 hp h3 hlive hne
      simp only [κ']
      rw [if_neg hb]
      exact hh.nofz i o' pl' h1 h2 h3
  · rcases hget i o' h1 with ⟨rfl, rfl⟩ | ⟨hne, h1⟩
    · rw [show κ'.pl = κ.pl from rfl, hp] at h2; cases h2
      exact ⟨cur.toList, by simp [κ']⟩
    · obtain ⟨c, hc⟩ := hh.fzo i o' pl' h1 h2 h3
      exact ⟨c, hfz _ _ hc⟩
  · rintro k ⟨i, o', pl', h1, h2, h3, h4⟩
    rcases hget i o' h1 with ⟨rfl, rfl⟩ | ⟨hne, h1⟩
    · cases h3
    · exact .inl ⟨i, o', pl', h1, h2, h3, h4⟩
  · simp only [κ'] at hb
    split at hb
    · rename_i e
      subst e
      cases hb
      by_cases hown : o.st.own = true
      · exact .inr (.inl ⟨id, o, pl, ho, hp, hown, rfl⟩)
      · have hst : o.st = .frz := by cases hst : o.st <;> rw [hst] at hown hlive <;> simp_all [AKind.own]
        obtain ⟨c, hc⟩ := hh.fzo id o pl ho hp hst
        obtain ⟨cur', e', z, d1, d2⟩ := hh.fz _ _ hc
        rw [c1] at d1; cases d1
        exact .inl (by rw [d2]; exact hc)
    · exact .inl hb

/-- An object frozen, where it may be. -/
def frzH (h : AHeap) (id : Nat) : AHeap :=
  match h[id]? with
  | some o => match o.frzOk with
    | true => h.set id o.frz
    | false => h
  | none => h

def frzHL (h : AHeap) : List Nat → AHeap
  | [] => h
  | i :: r => frzHL (frzH h i) r

theorem HR.frzHL {w : World} : ∀ {l : List Nat} {κ : Cx} {h : AHeap}, HR P κ h w → ∃ κ', HR P κ' (frzHL h l) w ∧ Fr κ h w κ' (frzHL h l) w
  | [], κ, h, hh => ⟨κ, hh, Fr.refl _ _ _⟩
  | i :: r, κ, h, hh => by
    have h1 : ∃ κ', HR P κ' (frzH h i) w ∧ Fr κ h w κ' (frzH h i) w := by
      unfold frzH
      split
      · rename_i o ho
        split
        · rename_i hok; exact hh.frz ho hok
        · exact ⟨κ, hh, Fr.refl _ _ _⟩
      · exact ⟨κ, hh, Fr.refl _ _ _⟩
    obtain ⟨κ1, k1, k2⟩ := h1
    obtain ⟨κ2, k3, k4⟩ := HR.frzHL (l := r) k1
    exact ⟨κ2, k3, k2.trans k4⟩

theorem HStep.freeze {m : Nat} {h : AHeap} (l : List Nat) : HStep P m h (frzHL h l) id := by
  refine ⟨fun κ w hm hh => ?_⟩
  obtain ⟨κ', h1, h2⟩ := HR.frzHL (l := l) hh
  exact ⟨κ', h1, h2.k hm, fun x v hx => h2.vr hx⟩

mutual
/-- What shows cells of frozen objects stands by its content. -/
def AV.conv (h : AHeap) : AV → AV
  | .sl (some (i, o)) l e t =>
    match h[i]? with
    | some ob => match ob.st with
      | .frz => .im ((ob.cells.drop o).take (l * e)) l
      | _ => .sl (some (i, o)) l e t
    | none => .sl (some (i, o)) l e t
  | .ag cs => .ag (convL h cs)
  | .tu vs => .tu (convL h vs)
  | .ifc t v => .ifc t (v.conv h)
  | v => v
def convL (h : AHeap) : List AV → List AV
  | [] => []
  | x :: xs => x.conv h :: convL h xs
end

mutual
theorem VR.conv {κ : Cx} {h : AHeap} {w : World} (hh : HR P κ h w) : ∀ {x : AV} {v : Value}, VR κ x v → VR κ (x.conv h) v
  | .undef, _, h => by simpa only [AV.conv] using h
  | .b _, _, h => by simpa only [AV.conv] using h
  | .i _ _, _, h => by simpa only [AV.conv] using h
  | .s _, _, h => by simpa only [AV.conv] using h
  | .p _, _, h => by simpa only [AV.conv] using h
  | .ip _, _, h => by simpa only [AV.conv] using h
  | .im _ _, _, h => by simpa only [AV.conv] using h
  | .fn _ _ _, _, h => by simpa only [AV.conv] using h
  | .nofn, _, h => by simpa only [AV.conv] using h
  | .noif, _, h => by simpa only [AV.conv] using h
  | .sl none _ _ _, _, h => by simpa only [AV.conv] using h
  | .sl (some (i, o)) l e t, v, hv => by
    simp only [AV.conv]
    split
    · rename_i ob ho
      split
      · rename_i hst
        obtain ⟨pl, hp⟩ := hh.lt ho
        have hlive : ob.st ≠ .dead := by rw [hst]; exact fun e => by cases e
        obtain ⟨cur, c1, c2, c3, c4⟩ := hh.obj i ob pl ho hp hlive
        obtain ⟨c, hc⟩ := hh.fzo i ob pl ho hp hst
        obtain ⟨cur', e', z, d1, d2⟩ := hh.fz _ _ hc
        rw [c1] at d1; cases d1
        rw [hst] at c4
        simp only [VR] at hv ⊢
        rcases hv with ⟨h0, _, _, ad, rfl⟩ | ⟨pl', cap, hp', rfl, g1, g2, g3, _⟩
        · exact .inl ⟨h0, by rw [h0]; simp, _, _, rfl⟩
        · rw [hp] at hp'; cases hp'
          subst d2
          have hcl : cur.toList.length = cur.size := by simp
          have hcap : l * e ≤ cap * e := Nat.mul_le_mul_right _ g1
          refine .inr ⟨pl.blk, o, cap, cur.toList, hc, rfl, g1, g2, by rw [List.length_take, List.length_drop]; omega, ?_⟩
          have h1 := ((c4.drop o).take (l * e)).le (κ.at_le AKind.frz)
          have h2 : VRL κ.bare ((ob.cells.drop o).take (l * e)) (((cur.toList.take ob.cells.length).drop o).take (l * e)) := (c4.drop o).take (l * e)
          have e1 : ((cur.toList.take ob.cells.length).drop o).take (l * e) = (cur.toList.drop o).take ((ob.cells.drop o).take (l * e)).length := by
            rw [List.drop_take, List.take_take, List.length_take, List.length_drop]
          rw [e1] at h2
          exact h2
      · exact hv
    · exact hv
  | .ag cs, v, hv => by
    simp only [AV.conv]
    simp only [VR] at hv ⊢
    obtain ⟨C, h1, h2⟩ := hv
    exact ⟨C, h1, VRL.conv hh h2⟩
  | .tu cs, v, hv => by
    simp only [AV.conv]
    simp only [VR] at hv ⊢
    obtain ⟨C, h1, h2⟩ := hv
    exact ⟨C, h1, VRL.conv hh h2⟩
  | .ifc t x, v, hv => by
    simp only [AV.conv]
    simp only [VR] at hv ⊢
    obtain ⟨y, h1, h2⟩ := hv
    exact ⟨y, h1, VR.conv hh h2⟩
theorem VRL.conv {κ : Cx} {h : AHeap} {w : World} (hh : HR P κ h w) : ∀ {xs : List AV} {vs : List Value}, VRL κ xs vs → VRL κ (convL h xs) vs
  | [], _, hv => by simpa [convL, VRL] using hv
  | _ :: _, _, hv => by
    simp only [convL]
    simp only [VRL] at hv ⊢
    obtain ⟨y, ys, h1, h2, h3⟩ := hv
    exact ⟨y, ys, h1, VR.conv hh h2, VRL.conv hh h3⟩
end

theorem HStep.conv {m : Nat} {h : AHeap} : HStep P m h h (AV.conv h) :=
  ⟨fun κ w hm hh => ⟨κ, hh, FrK.refl _ _ _ _, fun x v hx => hx.conv hh⟩⟩

/-! ### A call in a greater heap -/

/-- The smaller heap's k-th object is the greater one's l_k-th, if it is alive; the new ones come behind the n objects of the greater one. -/
def upF : AHeap → List Nat → Nat → Nat → Option Nat
  | o :: r, i :: l, n, k => match k with
    | 0 => match o.st with
      | .dead => none
      | _ => some i
    | k + 1 => upF r l n k
  | _, _, n, k => some (n + k)

theorem upF_old : ∀ {hs : AHeap} {l : List Nat} {n k j : Nat} {o : AObj}, hs.length = l.length → hs[k]? = some o → upF hs l n k = some j → o.st ≠ .dead ∧ l[k]? = some j
  | [], _, _, _, _, _, _, h, _ => by simp at h
  | _ :: _, [], _, _, _, _, h, _, _ => by simp at h
  | a :: r, i :: l, n, 0, j, o, _, h, hu => by
    simp at h; subst h
    simp only [upF] at hu
    split at hu
    · cases hu
    · rename_i hst; cases hu; exact ⟨hst, rfl⟩
  | a :: r, i :: l, n, k + 1, j, o, hl, h, hu => by
    simp only [upF] at hu
    obtain ⟨h1, h2⟩ := upF_old (k := k) (by simpa using hl) (by simpa using h) hu
    exact ⟨h1, by simpa using h2⟩

theorem upF_new : ∀ {hs : AHeap} {l : List Nat} {n k : Nat}, hs.length = l.length → hs.length ≤ k → upF hs l n k = some (n + (k - hs.length))
  | [], l, _, _, _, _ => by cases l <;> simp [upF]
  | _ :: _, [], _, _, h, _ => by simp at h
  | _ :: r, _ :: l, n, 0, _, h => by simp at h
  | _ :: r, _ :: l, n, k + 1, hl, h => by simp only [upF]; rw [upF_new (by simpa using hl) (by simpa using h)]; simp

/-- What is asked of the greater heap's object O, for the smaller one's o. -/
structure Fit (f : Nat → Option Nat) (o O : AObj) : Prop where
  ty : O.ty = o.ty
  cells : O.cells = (o.ren f).cells
  st : O.st = o.st ∨ (o.st = .vec ∧ O.st = .rw ∧ flatL O.cells = true)

def fits (H : AHeap) (f : Nat → Option Nat) : AHeap → List Nat → Prop
  | [], [] => True
  | o :: r, i :: l => (match o.st with
    | .dead => True
    | _ => ∃ O, H[i]? = some O ∧ Fit f o O) ∧ fits H f r l
  | _, _ => False

def lives : AHeap → List Nat → List Nat
  | o :: r, i :: l => match o.st with
    | .dead => lives r l
    | _ => i :: lives r l
  | _, _ => []

/-- The greater heap behind the call. -/
def putH (f : Nat → Option Nat) (H : AHeap) : AHeap → AHeap → List Nat → AHeap
  | o :: r, o' :: r', i :: l => match o.st with
    | .dead => putH f H r r' l
    | _ => putH f (H.set i (o'.ren f)) r r' l
  | _, _, _ => H

def newsH (f : Nat → Option Nat) : AHeap → AHeap → AHeap
  | _ :: r, _ :: r' => newsH f r r'
  | [], r' => r'.map (AObj.ren f)
  | _, _ => []

theorem fits_len {H : AHeap} {f : Nat → Option Nat} : ∀ {hs : AHeap} {l : List Nat}, fits H f hs l → hs.length = l.length
  | [], [], _ => rfl
  | o :: r, i :: l, h => by simp [fits_len h.2]
  | [], _ :: _, h => h.elim
  | _ :: _, [], h => h.elim

theorem fits_get {H : AHeap} {f : Nat → Option Nat} : ∀ {hs : AHeap} {l : List Nat}, fits H f hs l → ∀ {k : Nat} {o : AObj}, hs[k]? = some o → o.st ≠ .dead → ∃ i O, l[k]? = some i ∧ H[i]? = some O ∧ Fit f o O
  | [], _, _, k, o, h, _ => by simp at h
  | o :: r, [], hf, _, _, _, _ => hf.elim
  | o :: r, i :: l, hf, 0, o', h, hd => by
    simp at h; subst h
    have := hf.1
    split at this
    · rename_i hst; exact absurd hst hd
    · obtain ⟨O, h1, h2⟩ := this; exact ⟨i, O, rfl, h1, h2⟩
  | o :: r, i :: l, hf, k + 1, o', h, hd => by
    obtain ⟨j, O, h1, h2⟩ := fits_get hf.2 (k := k) (by simpa using h) hd
    exact ⟨j, O, by simpa using h1, h2⟩

theorem lives_mem : ∀ {hs : AHeap} {l : List Nat} {k i : Nat} {o : AObj}, hs[k]? = some o → o.st ≠ .dead → l[k]? = some i → i ∈ lives hs l
  | [], _, _, _, _, h, _, _ => by simp at h
  | _ :: _, [], _, _, _, _, _, h => by simp at h
  | o :: r, x :: l, 0, i, o', h, hd, hl => by
    simp at h hl; subst h; subst hl
    unfold lives
    split
    · rename_i hst; exact absurd hst hd
    · exact List.mem_cons_self ..
  | o :: r, x :: l, k + 1, i, o', h, hd, hl => by
    have := lives_mem (k := k) (by simpa using h) hd (by simpa using hl)
    unfold lives
    split
    · exact this
    · exact List.mem_cons_of_mem _ this

theorem lives_inj : ∀ {hs : AHeap} {l : List Nat}, (lives hs l).Nodup → ∀ {k k' i : Nat} {o o' : AObj}, hs[k]? = some o → o.st ≠ .dead → hs[k']? = some o' → o'.st ≠ .dead → l[k]? = some i → l[k']? = some i → k = k'
  | [], _, _, _, _, _, _, _, h, _, _, _, _, _ => by simp at h
  | _ :: _, [], _, _, _, _, _, _, _, _, _, _, h, _ => by simp at h
  | o :: r, x :: l, hn, k, k', i, a, b, h1, h2, h3, h4, h5, h6 => by
    have hn' : (lives r l).Nodup ∧ (o.st ≠ .dead → x ∉ lives r l) := by
      unfold lives at hn
      split at hn
      · rename_i hst; exact ⟨hn, fun h => absurd hst h⟩
      · exact ⟨(List.nodup_cons.1 hn).2, fun _ => (List.nodup_cons.1 hn).1⟩
    cases k with
    | zero =>
      cases k' with
      | zero => rfl
      | succ k' =>
        simp at h1 h5; subst h1; subst h5
        exact absurd (lives_mem (k := k') (by simpa using h3) h4 (by simpa using h6)) (hn'.2 h2)
    | succ k =>
      cases k' with
      | zero =>
        simp at h3 h6; subst h3; subst h6
        exact absurd (lives_mem (k := k) (by simpa using h1) h2 (by simpa using h5)) (hn'.2 h4)
      | succ k' =>
        congr 1
        exact lives_inj hn'.1 (by simpa using h1) h2 (by simpa using h3) h4 (by simpa using h5) (by simpa using h6)

theorem putH_len (f : Nat → Option Nat) : ∀ (hs h0 : AHeap) (l : List Nat) (H : AHeap), (putH f H hs h0 l).length = H.length
  | [], _, _, H => by simp [putH]
  | _ :: _, [], _, H => by simp [putH]
  | _ :: _, _ :: _, [], H => by simp [putH]
  | o :: r, o' :: r', i :: l, H => by
    unfold putH
    split
    · exact putH_len f r r' l H
    · rw [putH_len f r r' l]; simp

/-- What the greater heap holds behind the call. -/
theorem putH_get (f : Nat → Option Nat) : ∀ (hs h0 : AHeap) (l : List Nat) (H : AHeap) (_ : hs.length = l.length) (_ : hs.length ≤ h0.length) (_ : (lives hs l).Nodup) (i : Nat) (o : AObj), (putH f H hs h0 l)[i]? = some o →
    (i ∉ lives hs l ∧ H[i]? = some o) ∨ ∃ (k : Nat) (os o' : AObj), hs[k]? = some os ∧ os.st ≠ .dead ∧ l[k]? = some i ∧ h0[k]? = some o' ∧ o = o'.ren f
  | [], _, l, H, _, _, _, i, o, h => by
    have : lives [] l = [] := by cases l <;> rfl
    exact .inl ⟨by rw [this]; simp, by simpa [putH] using h⟩
  | _ :: _, [], _, H, _, hl, _, _, _, _ => by simp at hl
  | _ :: _, _ :: _, [], H, hl, _, _, _, _, _ => by simp at hl
  | os :: r, o' :: r', x :: l, H, h1, h2, h3, i, o, h => by
    unfold putH at h
    split at h
    · rename_i hst
      have hlv : lives (os :: r) (x :: l) = lives r l := by rw [lives]; simp [hst]
      rw [hlv] at h3 ⊢
      rcases putH_get f r r' l H (by simpa using h1) (by simpa using h2) h3 i o h with h | ⟨k, a, b, g1, g2, g3, g4, g5⟩
      · exact .inl h
      · exact .inr ⟨k + 1, a, b, by simpa using g1, g2, by simpa using g3, by simpa using g4, g5⟩
    · rename_i hst
      have hlv : lives (os :: r) (x :: l) = x :: lives r l := by rw [lives]; split <;> simp_all
      rw [hlv] at h3 ⊢
      rcases putH_get f r r' l (H.set x (o'.ren f)) (by simpa using h1) (by simpa using h2) (List.nodup_cons.1 h3).2 i o h with ⟨h, g⟩ | ⟨k, a, b, g1, g2, g3, g4, g5⟩
      · by_cases hi : i = x
        · subst hi
          have hlt : i < H.length := by have := (List.getElem?_eq_some_iff.1 g).1; simpa using this
          rw [List.getElem?_set_self hlt] at g
          exact .inr ⟨0, os, o', rfl, hst, rfl, rfl, (Option.some.inj g).symm⟩
        · rw [List.getElem?_set_ne (Ne.symm hi)] at g
          exact .inl ⟨by simp [hi, h], g⟩
      · exact .inr ⟨k + 1, a, b, by simpa using g1, g2, by simpa using g3, by simpa using g4, g5⟩

theorem newsH_eq (f : Nat → Option Nat) : ∀ (hs h0 : AHeap), hs.length ≤ h0.length → newsH f hs h0 = (h0.drop hs.length).map (AObj.ren f)
  | [], h0, _ => by simp [newsH]
  | _ :: _, [], h => by simp at h
  | _ :: r, _ :: r', h => by simp only [newsH, List.length_cons, List.drop_succ_cons]; exact newsH_eq f r r' (by simpa using h)

def bigH (l : List Nat) (H hs h0 : AHeap) : AHeap := putH (upF hs l H.length) H hs h0 l ++ newsH (upF hs l H.length) hs h0

theorem frame_core {l : List Nat} {H hs h0 : AHeap} {κ κ0 : Cx} {w w' : World} (hf : fits H (upF hs l H.length) hs l) (hn : (lives hs l).Nodup) (hh : HR P κ H w)
    (h0h : HR P κ0 h0 w') (fr : Fr ⟨l.map fun i => (κ.pl[i]?).getD default, κ.fz⟩ hs w κ0 h0 w') :
    ∃ κ1, Ren (upF hs l H.length) κ0 κ1 ∧ HR P κ1 (bigH l H hs h0) w' ∧ Fr κ H w κ1 (bigH l H hs h0) w' := by
  have hll := fits_len hf
  have hlen := hh.len
  obtain ⟨τ, hτ⟩ := fr.le.pl
  simp only at hτ
  have hfz0 := fr.le.fz
  simp only at hfz0
  have hl0 : hs.length ≤ h0.length := by
    have := h0h.len
    rw [hτ] at this
    simp at this
    omega
  have hplk : ∀ (k i : Nat), l[k]? = some i → i < H.length → κ0.pl[k]? = κ.pl[i]? := by
    intro k i h1 h2
    rw [hτ, List.getElem?_append_left (by simp; exact (List.getElem?_eq_some_iff.1 h1).1), List.getElem?_map, h1, Option.map_some, List.getElem?_eq_getElem (by omega)]
    simp
  let κ1 : Cx := ⟨κ.pl ++ τ, κ0.fz⟩
  have hle : κ.le κ1 := ⟨⟨τ, rfl⟩, hfz0⟩
  have hnew : ∀ k, hs.length ≤ k → κ0.pl[k]? = κ1.pl[H.length + (k - hs.length)]? := by
    intro k hk
    simp only [κ1]
    rw [hτ, List.getElem?_append_right (by simp; omega), List.getElem?_append_right (by omega)]
    congr 1
    simp
    omega
  have hold : ∀ (k : Nat) os, hs[k]? = some os → os.st ≠ .dead → ∃ i O, l[k]? = some i ∧ H[i]? = some O ∧ O.st ≠ .dead ∧ (os.st.own = true → O.st.own = true) ∧ κ0.pl[k]? = κ.pl[i]? := by
    intro k os h1 h2
    obtain ⟨i, O, g1, g2, g3⟩ := fits_get hf h1 h2
    have hO : O.st ≠ .dead ∧ (os.st.own = true → O.st.own = true) := by
      rcases g3.st with e | ⟨e1, e2, _⟩
      · rw [e]; exact ⟨h2, fun h => h⟩
      · rw [e2]; exact ⟨(fun e => by cases e), fun _ => rfl⟩
    exact ⟨i, O, g1, g2, hO.1, hO.2, hplk k i g1 (List.getElem?_eq_some_iff.1 g2).1⟩
  have r : Ren (upF hs l H.length) κ0 κ1 := by
    refine ⟨fun k j hkj pl hp => ?_, fun _ _ h => h⟩
    by_cases hk : k < hs.length
    · obtain ⟨hd, hl⟩ := upF_old hll (List.getElem?_eq_getElem hk) hkj
      obtain ⟨i, O, g1, g2, _, _, g4⟩ := hold k _ (List.getElem?_eq_getElem hk) hd
      rw [hl] at g1; cases g1
      rw [g4] at hp
      exact hle.get hp
    · rw [upF_new hll (by omega)] at hkj
      cases hkj
      rw [← hnew k (by omega)]; exact hp
  -- objects of the great heap
  have hobj : ∀ (i : Nat) o pl, (bigH l H hs h0)[i]? = some o → κ1.pl[i]? = some pl →
      (i ∉ lives hs l ∧ H[i]? = some o ∧ κ.pl[i]? = some pl) ∨ ∃ (k : Nat) (o' : AObj), h0[k]? = some o' ∧ κ0.pl[k]? = some pl ∧ o = o'.ren (upF hs l H.length) ∧
        ((∃ os, hs[k]? = some os ∧ os.st ≠ .dead ∧ l[k]? = some i ∧ i < H.length) ∨ (hs.length ≤ k ∧ i = H.length + (k - hs.length))) := by
    intro i o pl h1 h2
    unfold bigH at h1
    have hpl := putH_len (upF hs l H.length) hs h0 l H
    by_cases hi : i < H.length
    · rw [List.getElem?_append_left (by omega)] at h1
      have h2' : κ.pl[i]? = some pl := by
        simp only [κ1] at h2
        rwa [List.getElem?_append_left (by omega)] at h2
      rcases putH_get _ hs h0 l H hll hl0 hn i o h1 with ⟨g1, g2⟩ | ⟨k, os, o', g1, g2, g3, g4, g5⟩
      · exact .inl ⟨g1, g2, h2'⟩
      · exact .inr ⟨k, o', g4, by rw [hplk k i g3 hi]; exact h2', g5, .inl ⟨os, g1, g2, g3, hi⟩⟩
    · rw [List.getElem?_append_right (by omega), hpl, newsH_eq _ _ _ hl0, List.getElem?_map, List.getElem?_drop] at h1
      cases ho : h0[hs.length + (i - H.length)]? with
      | none => rw [ho] at h1; simp at h1
      | some o' =>
        rw [ho] at h1
        simp at h1
        refine .inr ⟨_, o', ho, ?_, h1.symm, .inr ⟨by omega, by omega⟩⟩
        rw [hnew _ (by omega), show H.length + (hs.length + (i - H.length) - hs.length) = i by omega]; exact h2
  have howned : ∀ k, Owned ⟨l.map fun i => (κ.pl[i]?).getD default, κ.fz⟩ hs k → ∃ (i : Nat) (O : AObj) (pl : Pl), i ∈ lives hs l ∧ H[i]? = some O ∧ κ.pl[i]? = some pl ∧ O.st.own = true ∧ pl.blk = k := by
    rintro b ⟨k, os, pl, h1, h2, h3, h4⟩
    obtain ⟨i, O, g1, g2, g3, g4, g5⟩ := hold k os h1 (AKind.own_live h3)
    refine ⟨i, O, pl, lives_mem h1 (AKind.own_live h3) g1, g2, ?_, g4 h3, h4⟩
    have hi := (List.getElem?_eq_some_iff.1 g2).1
    simp only [List.getElem?_map, g1, Option.map_some] at h2
    rw [List.getElem?_eq_getElem (by omega)] at h2 ⊢
    simpa using h2
  have hOwn : ∀ k, Owned ⟨l.map fun i => (κ.pl[i]?).getD default, κ.fz⟩ hs k → Owned κ H k := by
    intro b hb
    obtain ⟨i, O, pl, _, h2, h3, h4, h5⟩ := howned b hb
    exact ⟨i, O, pl, h2, h3, h4, h5⟩
  -- what was not handed over is as it was
  have hstay : ∀ (i : Nat) O pl, i ∉ lives hs l → H[i]? = some O → κ.pl[i]? = some pl → O.st ≠ .dead → ¬ Owned ⟨l.map fun i => (κ.pl[i]?).getD default, κ.fz⟩ hs pl.blk := by
    intro i O pl h1 h2 h3 h4 hb
    obtain ⟨j, O', pl', g1, g2, g3, g4, g5⟩ := howned _ hb
    exact hh.excl j i O' O pl' pl g2 h2 g3 h3 g4 h4 (fun e => h1 (e ▸ g1)) g5
  have hstay' : ∀ (i : Nat) O pl, i ∉ lives hs l → H[i]? = some O → κ.pl[i]? = some pl → O.st ≠ .dead → w'.heap[pl.blk]? = w.heap[pl.blk]? := by
    intro i O pl h1 h2 h3 h4
    exact fr.fr.block _ (hh.obj i O pl h2 h3 h4).blk_lt (hstay i O pl h1 h2 h3 h4)
  -- a new or handed over object's block is none of those that stay
  have hsep : ∀ (i : Nat) O pl, i ∉ lives hs l → H[i]? = some O → κ.pl[i]? = some pl → O.st ≠ .dead → ∀ (k : Nat) o' pl', h0[k]? = some o' → κ0.pl[k]? = some pl' → o'.st.own = true → pl'.blk ≠ pl.blk := by
    intro i O pl h1 h2 h3 h4 k o' pl' g1 g2 g3 he
    rcases fr.fr.own pl'.blk ⟨k, o', pl', g1, g2, g3, rfl⟩ with hb | hb
    · rw [he] at hb; exact hstay i O pl h1 h2 h3 h4 hb
    · have := (hh.obj i O pl h2 h3 h4).blk_lt; omega
  have hsepf : ∀ (i : Nat) O pl, i ∉ lives hs l → H[i]? = some O → κ.pl[i]? = some pl → O.st.own = true → κ0.fz pl.blk = none := by
    intro i O pl h1 h2 h3 h4
    cases hc : κ0.fz pl.blk with
    | none => rfl
    | some c =>
      rcases fr.fr.fzn _ _ hc with hb | hb | hb
      · simp only at hb
        rw [hh.nofz i O pl h2 h3 h4] at hb; cases hb
      · exact absurd hb (hstay i O pl h1 h2 h3 (AKind.own_live h4))
      · have := (hh.obj i O pl h2 h3 (AKind.own_live h4)).blk_lt; omega
  have hblen : (bigH l H hs h0).length = H.length + (h0.length - hs.length) := by
    unfold bigH
    rw [List.length_append, putH_len, newsH_eq _ _ _ hl0]
    simp
  refine ⟨κ1, r, ⟨?_, fun i o pl h1 h2 h3 => ?_, fun i j o1 o2 pl1 pl2 h1 h2 h3 h4 h5 h6 h7 => ?_, fun b c hb => ?_, fun i o pl h1 h2 h3 => ?_, fun i o pl h1 h2 h3 => ?_, hh.gl.of hfz0⟩, ⟨hle, fr.fr.os, fr.fr.tape, fr.fr.output, fr.fr.size, fun k hk ho => fr.fr.block k hk fun hb => ho (hOwn k hb), ?_, fun b c hb => ?_⟩⟩
  · rw [hblen]
    have := h0h.len
    rw [hτ] at this
    simp at this
    simp [κ1]
    omega
  · rcases hobj i o pl h1 h2 with ⟨g1, g2, g3⟩ | ⟨k, o', g1, g2, rfl, _⟩
    · exact (hh.obj i o pl g2 g3 h3).le hle (hstay' i o pl g1 g2 g3 h3)
    · rw [AObj.ren_st] at h3
      exact (h0h.obj k o' pl g1 g2 h3).ren r h3
  · rcases hobj i o1 pl1 h1 h3 with ⟨g1, g2, g3⟩ | ⟨k, o', g1, g2, rfl, g3⟩
    · rcases hobj j o2 pl2 h2 h4 with ⟨k1, k2, k3⟩ | ⟨k, o', k1, k2, rfl, _⟩
      · exact hh.excl i j o1 o2 pl1 pl2 g2 k2 g3 k3 h5 h6 h7
      · rw [AObj.ren_st] at h6
        cases hst : o'.st with
        | dead => exact absurd hst h6
        | frz =>
          intro he
          obtain ⟨c, hc⟩ := h0h.fzo k o' pl2 k1 k2 hst
          rw [← he, hsepf i o1 pl1 g1 g2 g3 h5] at hc
          cases hc
        | rw => exact (hsep i o1 pl1 g1 g2 g3 (AKind.own_live h5) k o' pl2 k1 k2 (by rw [hst]; rfl)).symm
        | vec => exact (hsep i o1 pl1 g1 g2 g3 (AKind.own_live h5) k o' pl2 k1 k2 (by rw [hst]; rfl)).symm
    · rw [AObj.ren_st] at h5
      rcases hobj j o2 pl2 h2 h4 with ⟨k1, k2, k3⟩ | ⟨k', o'', k1, k2, rfl, k3⟩
      · exact hsep j o2 pl2 k1 k2 k3 h6 k o' pl1 g1 g2 h5
      · rw [AObj.ren_st] at h6
        refine h0h.excl k k' o' o'' pl1 pl2 g1 k1 g2 k2 h5 h6 fun e => ?_
        subst e
        rcases g3 with ⟨a, a1, a2, a3, a4⟩ | ⟨a1, a2⟩
        · rcases k3 with ⟨b, b1, b2, b3, b4⟩ | ⟨b1, b2⟩
          · rw [a3] at b3; cases b3; exact h7 rfl
          · have := (List.getElem?_eq_some_iff.1 a1).1; omega
        · rcases k3 with ⟨b, b1, b2, b3, b4⟩ | ⟨b1, b2⟩
          · have := (List.getElem?_eq_some_iff.1 b1).1; omega
          · exact h7 (by omega)
  · exact h0h.fz b c hb
  · rcases hobj i o pl h1 h2 with ⟨g1, g2, g3⟩ | ⟨k, o', g1, g2, rfl, _⟩
    · exact hsepf i o pl g1 g2 g3 h3
    · rw [AObj.ren_st] at h3
      exact h0h.nofz k o' pl g1 g2 h3
  · rcases hobj i o pl h1 h2 with ⟨g1, g2, g3⟩ | ⟨k, o', g1, g2, rfl, _⟩
    · obtain ⟨c, hc⟩ := hh.fzo i o pl g2 g3 h3
      exact ⟨c, hfz0 _ _ hc⟩
    · rw [AObj.ren_st] at h3
      exact h0h.fzo k o' pl g1 g2 h3
  · rintro b ⟨i, o, pl, h1, h2, h3, h4⟩
    rcases hobj i o pl h1 h2 with ⟨g1, g2, g3⟩ | ⟨k, o', g1, g2, rfl, _⟩
    · exact .inl ⟨i, o, pl, g2, g3, h3, h4⟩
    · rw [AObj.ren_st] at h3
      rcases fr.fr.own b ⟨k, o', pl, g1, g2, h3, h4⟩ with hb | hb
      · exact .inl (hOwn b hb)
      · exact .inr hb
  · rcases fr.fr.fzn b c hb with h | h | h
    · exact .inl h
    · exact .inr (.inl (hOwn b h))
    · exact .inr (.inr h)

/-- The smaller heap lies in the world as the greater one does. -/
theorem frame_pre {l : List Nat} {H hs : AHeap} {κ : Cx} {w : World} (hf : fits H (upF hs l H.length) hs l) (hn : (lives hs l).Nodup) (hh : HR P κ H w) (hdown : ∀ o ∈ hs, o.st = .rw → ∀ vals, VRL κ (renL (upF hs l H.length) o.cells) vals → VRL ⟨l.map fun i => (κ.pl[i]?).getD default, κ.fz⟩ o.cells vals) :
    HR P ⟨l.map fun i => (κ.pl[i]?).getD default, κ.fz⟩ hs w := by
  have hll := fits_len hf
  have hlen := hh.len
  have hpl : ∀ (k : Nat) os pl, hs[k]? = some os → os.st ≠ .dead → (l.map fun i => (κ.pl[i]?).getD default)[k]? = some pl → ∃ i O, l[k]? = some i ∧ H[i]? = some O ∧ κ.pl[i]? = some pl ∧ Fit (upF hs l H.length) os O ∧ O.st ≠ .dead ∧ (os.st.own = true → O.st.own = true) := by
    intro k os pl h1 h2 h3
    obtain ⟨i, O, g1, g2, g3⟩ := fits_get hf h1 h2
    have hi := (List.getElem?_eq_some_iff.1 g2).1
    simp only [List.getElem?_map, g1, Option.map_some] at h3
    rw [List.getElem?_eq_getElem (by omega)] at h3
    refine ⟨i, O, g1, g2, ?_, g3, ?_⟩
    · rw [List.getElem?_eq_getElem (by omega)]; simpa using h3
    · rcases g3.st with e | ⟨e1, e2, _⟩
      · rw [e]; exact ⟨h2, fun h => h⟩
      · rw [e2]; exact ⟨(fun e => by cases e), fun _ => rfl⟩
  refine ⟨by simp [hll], fun k os pl h1 h2 h3 => ?_, fun k k' o o' pl pl' h1 h2 h3 h4 h5 h6 h7 => ?_, hh.fz, fun k o pl h1 h2 h3 => ?_, fun k o pl h1 h2 h3 => ?_, hh.gl⟩
  · obtain ⟨i, O, g1, g2, g3, g4, g5, _⟩ := hpl k os pl h1 h3 h2
    obtain ⟨cur, c1, c2, c3, c4⟩ := hh.obj i O pl g2 g3 g5
    have hcl : O.cells.length = os.cells.length := by rw [g4.cells, AObj.ren_len]
    refine ⟨cur, by rw [← g4.ty]; exact c1, c2, by rw [← hcl]; exact c3, ?_⟩
    rw [← hcl]
    have hoc := g4.cells
    cases hst : os.st with
    | dead => exact absurd hst h3
    | rw =>
      have hO : O.st = .rw := by rcases g4.st with e | ⟨e1, _⟩ <;> simp_all
      rw [hO] at c4
      have hoc' : O.cells = renL (upF hs l H.length) os.cells := by rw [hoc]; simp [AObj.ren, hst]
      rw [hoc'] at c4 ⊢
      exact hdown os (List.mem_of_getElem? h1) hst _ c4
    | vec =>
      have hoc' : O.cells = os.cells := by rw [hoc]; simp [AObj.ren, hst]
      have : VRL κ.bare O.cells (cur.toList.take O.cells.length) := by
        rcases g4.st with e | ⟨_, e2, e3⟩
        · rw [e, hst] at c4; exact c4
        · rw [e2] at c4; exact VRL.flat e3 c4
      rw [hoc'] at this ⊢
      exact this
    | frz =>
      have hoc' : O.cells = os.cells := by rw [hoc]; simp [AObj.ren, hst]
      have : VRL κ.bare O.cells (cur.toList.take O.cells.length) := by
        rcases g4.st with e | ⟨e1, _⟩
        · rw [e, hst] at c4; exact c4
        · rw [hst] at e1; cases e1
      rw [hoc'] at this ⊢
      exact this
  · obtain ⟨i, O, g1, g2, g3, g4, g5, g6⟩ := hpl k o pl h1 (AKind.own_live h5) h3
    obtain ⟨i', O', k1, k2, k3, k4, k5, k6⟩ := hpl k' o' pl' h2 h6 h4
    refine hh.excl i i' O O' pl pl' g2 k2 g3 k3 (g6 h5) k5 fun e => ?_
    subst e
    exact h7 (lives_inj hn h1 (AKind.own_live h5) h2 h6 g1 k1)
  · obtain ⟨i, O, g1, g2, g3, g4, g5, g6⟩ := hpl k o pl h1 (AKind.own_live h3) h2
    exact hh.nofz i O pl g2 g3 (g6 h3)
  · obtain ⟨i, O, g1, g2, g3, g4, g5, g6⟩ := hpl k o pl h1 (by rw [h3]; exact fun e => by cases e) h2
    have hO : O.st = .frz := by rcases g4.st with e | ⟨e1, _⟩ <;> simp_all
    exact hh.fzo i O pl g2 g3 hO

mutual
/-- A value under other numbers, read back: where every number has one. -/
def AV.okR (f : Nat → Option Nat) : AV → Bool
  | .p (some (i, _)) => (f i).isSome
  | .sl (some (i, _)) _ _ _ => (f i).isSome
  | .fn _ first caps => okRL f first && okRL f caps
  | .ifc _ v => v.okR f
  | .ag cs => okRL f cs
  | .tu vs => okRL f vs
  | _ => true
def okRL (f : Nat → Option Nat) : List AV → Bool
  | [] => true
  | x :: xs => x.okR f && okRL f xs
end

/-- Where numbers are turned back, what lies at the one lies at the other. -/
structure RenB (f : Nat → Option Nat) (κ κ' : Cx) : Prop where
  pl : ∀ i j, f i = some j → ∀ pl, κ'.pl[j]? = some pl → κ.pl[i]? = some pl
  fz : ∀ b c, κ'.fz b = some c → κ.fz b = some c

theorem RenB.bare {f : Nat → Option Nat} {κ κ' : Cx} (r : RenB f κ κ') : Cx.le ⟨[], κ'.fz⟩ ⟨[], κ.fz⟩ := ⟨⟨[], rfl⟩, r.fz⟩

mutual
theorem VR.renB {f : Nat → Option Nat} {κ κ' : Cx} (r : RenB f κ κ') : ∀ {x : AV} {v : Value}, x.okR f = true → VR κ' (x.ren f) v → VR κ x v
  | .undef, _, _, _ => by simp [VR]
  | .b _, _, _, h => by simpa [AV.ren, VR] using h
  | .i _ _, _, _, h => by simpa [AV.ren, VR] using h
  | .s _, _, _, h => by simpa [AV.ren, VR] using h
  | .p none, _, _, h => by simpa [AV.ren, VR] using h
  | .p (some (i, o)), _, hok, h => by
    simp only [AV.okR] at hok
    simp only [AV.ren] at h
    cases hf : f i with
    | none => rw [hf] at hok; cases hok
    | some j =>
      rw [hf] at h
      simp only [VR] at h ⊢
      obtain ⟨pl, h1, h2⟩ := h
      exact ⟨pl, r.pl i j hf pl h1, h2⟩
  | .ip cs, _, _, h => by
    simp only [AV.ren] at h
    simp only [VR] at h ⊢
    obtain ⟨blk, base, c, h1, h2, h3, h4⟩ := h
    exact ⟨blk, base, c, r.fz _ _ h1, h2, h3, h4.le r.bare⟩
  | .sl none _ _ _, _, _, h => by simpa [AV.ren, VR] using h
  | .sl (some (i, o)) _ _ _, _, hok, h => by
    simp only [AV.okR] at hok
    simp only [AV.ren] at h
    cases hf : f i with
    | none => rw [hf] at hok; cases hok
    | some j =>
      rw [hf] at h
      simp only [VR] at h ⊢
      rcases h with ⟨g1, g2, ⟨pl, g3⟩, g4⟩ | ⟨pl, cap, h1, h2⟩
      · exact .inl ⟨g1, g2, ⟨pl, r.pl i j hf pl g3⟩, g4⟩
      · exact .inr ⟨pl, cap, r.pl i j hf pl h1, h2⟩
  | .im cs len, _, _, h => by
    simp only [AV.ren] at h
    simp only [VR] at h ⊢
    rcases h with h | ⟨blk, base, cap, c, h1, h2, h3, h4, h5, h6⟩
    · exact .inl h
    · exact .inr ⟨blk, base, cap, c, r.fz _ _ h1, h2, h3, h4, h5, h6.le r.bare⟩
  | .fn _ _ _, _, hok, h => by
    simp only [AV.okR, Bool.and_eq_true] at hok
    simp only [AV.ren] at h
    simp only [VR] at h ⊢
    obtain ⟨F, C, h1, h2, h3⟩ := h
    exact ⟨F, C, h1, VRL.renB r hok.1 h2, VRL.renB r hok.2 h3⟩
  | .nofn, _, _, h => by simpa [AV.ren, VR] using h
  | .ifc _ _, _, hok, h => by
    simp only [AV.okR] at hok
    simp only [AV.ren] at h
    simp only [VR] at h ⊢
    obtain ⟨y, h1, h2⟩ := h
    exact ⟨y, h1, VR.renB r hok h2⟩
  | .noif, _, _, h => by simpa [AV.ren, VR] using h
  | .ag _, _, hok, h => by
    simp only [AV.okR] at hok
    simp only [AV.ren] at h
    simp only [VR] at h ⊢
    obtain ⟨C, h1, h2⟩ := h
    exact ⟨C, h1, VRL.renB r hok h2⟩
  | .tu _, _, hok, h => by
    simp only [AV.okR] at hok
    simp only [AV.ren] at h
    simp only [VR] at h ⊢
    obtain ⟨C, h1, h2⟩ := h
    exact ⟨C, h1, VRL.renB r hok h2⟩
theorem VRL.renB {f : Nat → Option Nat} {κ κ' : Cx} (r : RenB f κ κ') : ∀ {xs : List AV} {vs : List Value}, okRL f xs = true → VRL κ' (renL f xs) vs → VRL κ xs vs
  | [], _, _, h => by simpa [renL, VRL] using h
  | _ :: _, _, hok, h => by
    simp only [okRL, Bool.and_eq_true] at hok
    simp only [renL] at h
    simp only [VRL] at h ⊢
    obtain ⟨y, ys, h1, h2, h3⟩ := h
    exact ⟨y, ys, h1, VR.renB r hok.1 h2, VRL.renB r hok.2 h3⟩
end

/-- All numbers that the smaller heap names are alive in it. -/
def okRH (f : Nat → Option Nat) : AHeap → Bool
  | [] => true
  | o :: r => (match o.st with
    | .rw => okRL f o.cells
    | _ => true) && okRH f r

theorem okRH_mem {f : Nat → Option Nat} : ∀ {hs : AHeap}, okRH f hs = true → ∀ o ∈ hs, o.st = .rw → okRL f o.cells = true
  | [], _, _, h, _ => by cases h
  | a :: r, h, o, hm, hst => by
    simp only [okRH, Bool.and_eq_true] at h
    rcases List.mem_cons.1 hm with e | e
    · subst e; have := h.1; rw [hst] at this; exact this
    · exact okRH_mem h.2 o e hst

/-- A call whose contract speaks of a smaller heap. -/
theorem SC.frame {f : FuncId} {args : List AV} {R : AE → AHeap → Prop} {hs : AHeap} (s : SC P f args R hs) {H : AHeap} (l : List Nat) (hf : fits H (upF hs l H.length) hs l) (hn : nodupB (lives hs l) = true)
    (hok : (okRH (upF hs l H.length) hs && okRL (upF hs l H.length) args) = true) :
    SC P f (renL (upF hs l H.length) args) (fun r h' => ∃ r0 h0, R r0 h0 ∧ r = r0.map (AV.ren (upF hs l H.length)) ∧ h' = bigH l H hs h0) H := by
  have hn := nodupB_nodup hn
  simp only [Bool.and_eq_true] at hok
  have hll := fits_len hf
  have hb : ∀ (κ : Cx), κ.pl.length = H.length → RenB (upF hs l H.length) ⟨l.map fun i => (κ.pl[i]?).getD default, κ.fz⟩ κ := by
    intro κ hlen
    refine ⟨fun k j hkj pl hp => ?_, fun _ _ h => h⟩
    have hj : j < κ.pl.length := (List.getElem?_eq_some_iff.1 hp).1
    by_cases hk : k < hs.length
    · obtain ⟨_, h2⟩ := upF_old hll (List.getElem?_eq_getElem hk) hkj
      simp [h2, hp]
    · rw [upF_new hll (by omega)] at hkj
      cases hkj
      omega
  have er : ∀ {κ0 κ1 : Cx} {r0 e}, Ren (upF hs l H.length) κ0 κ1 → ER κ0 r0 e → ER κ1 (r0.map (AV.ren (upF hs l H.length))) e := by
    intro κ0 κ1 r0 e r he
    cases r0 with
    | ret v => obtain ⟨y, rfl, hy⟩ := he; exact ⟨y, rfl, hy.ren r⟩
    | panic v => obtain ⟨y, rfl, hy⟩ := he; exact ⟨y, rfl, hy.ren r⟩
  rcases s with ⟨h1, s⟩ | s
  · refine .inl ⟨h1, fun κ vals w hv hh => ?_⟩
    have hpre := frame_pre hf hn hh fun o ho hst vals hv => hv.renB (hb κ hh.len) (okRH_mem hok.1 o ho hst)
    refine (s _ vals w (hv.renB (hb κ hh.len) hok.2) hpre).mono ?_
    rintro e w' ⟨r0, κ0, h0, he, h0h, fr, hR⟩
    obtain ⟨κ1, r, k1, k2⟩ := frame_core hf hn hh h0h fr
    exact ⟨_, κ1, _, er r he, k1, k2, r0, h0, hR, rfl, rfl⟩
  · refine .inr fun κ vals w hv hh => ?_
    have hpre := frame_pre hf hn hh fun o ho hst vals hv => hv.renB (hb κ hh.len) (okRH_mem hok.1 o ho hst)
    obtain ⟨v, val, κ0, h0, w', h2, h3, h4, h5, h6⟩ := s _ vals w (hv.renB (hb κ hh.len) hok.2) hpre
    obtain ⟨κ1, r, k1, k2⟩ := frame_core hf hn hh h4 h5
    exact ⟨v.ren _, val, κ1, _, w', h2, h3.ren r, k1, k2, .ret v, h0, h6, rfl, rfl⟩

end Go.S2
