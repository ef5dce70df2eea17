/- The operations over the abstract reading, fourth part: append; and a call's frame. -/
import Derived.Test.YtabobghngfmilaaDoorS2E
set_option linter.unusedSimpArgs false
set_option linter.unusedVariables false
namespace Go.S2
variable {P : Program}

def deadObj : AObj := ⟨0, [], .dead⟩

/-- Objects are given up, or are of another kind: what is alive has its like. -/
theorem HR.of_like {κ : Cx} {h h' : AHeap} {w : World} (hh : HR P κ h w) (hl : h'.length = h.length)
    (hlike : ∀ (i : Nat) o' pl, h'[i]? = some o' → κ.pl[i]? = some pl → o'.st ≠ .dead → ∃ (o : AObj), h[i]? = some o ∧ o.st ≠ .dead ∧ (o'.st.own = true → o.st.own = true) ∧ (o'.st = .frz → o.st = .frz) ∧ (ObjR κ o pl w → ObjR κ o' pl w)) : HR P κ h' w := by
  refine ⟨hh.len.trans hl.symm, fun i o pl h1 h2 h3 => ?_, fun i j o o' pl pl' h1 h2 h3 h4 h5 h6 h7 => ?_, hh.fz, fun i o pl h1 h2 h3 => ?_, fun i o pl h1 h2 h3 => ?_, hh.gl⟩
  · obtain ⟨o1, g1, g2, _, _, g4⟩ := hlike i o pl h1 h2 h3
    exact g4 (hh.obj i o1 pl g1 h2 g2)
  · obtain ⟨o1, g1, g2, g3, _⟩ := hlike i o pl h1 h3 (AKind.own_live h5)
    obtain ⟨o2, k1, k2, _⟩ := hlike j o' pl' h2 h4 h6
    exact hh.excl i j o1 o2 pl pl' g1 k1 h3 h4 (g3 h5) k2 h7
  · obtain ⟨o1, g1, _, g2, _⟩ := hlike i o pl h1 h2 (AKind.own_live h3)
    exact hh.nofz i o1 pl g1 h2 (g2 h3)
  · obtain ⟨o1, g1, _, _, g2, _⟩ := hlike i o pl h1 h2 (by rw [h3]; exact fun e => by cases e)
    exact hh.fzo i o1 pl g1 h2 (g2 h3)

theorem kill_get {h : AHeap} {id : Nat} {od : AObj} (hd : od.st = .dead) (i : Nat) (o' : AObj) (h1 : (h.set id od)[i]? = some o') (h2 : o'.st ≠ .dead) : i ≠ id ∧ h[i]? = some o' := by
  by_cases hi : i = id
  · subst hi
    by_cases hl : i < h.length
    · rw [List.getElem?_set_self hl] at h1; cases h1; exact absurd hd h2
    · rw [List.getElem?_eq_none (by simp; omega)] at h1; cases h1
  · rw [List.getElem?_set_ne (Ne.symm hi)] at h1; exact ⟨hi, h1⟩

/-- An object is given up. -/
theorem HR.kill {κ : Cx} {h : AHeap} {w : World} (hh : HR P κ h w) (id : Nat) {od : AObj} (hd : od.st = .dead) : HR P κ (h.set id od) w :=
  hh.of_like (by simp) fun i o pl h1 _ h3 => ⟨o, (kill_get hd i o h1 h3).2, h3, fun h => h, fun h => h, fun h => h⟩

theorem Owned.of_kill {κ : Cx} {h : AHeap} {id k : Nat} {od : AObj} (hd : od.st = .dead) (ho : Owned κ (h.set id od) k) : Owned κ h k := by
  obtain ⟨i, o, pl, h1, h2, h3, h4⟩ := ho
  exact ⟨i, o, pl, (kill_get hd i o h1 (AKind.own_live h3)).2, h2, h3, h4⟩

theorem Fr.kill (κ : Cx) (h : AHeap) (w : World) (id : Nat) {od : AObj} (hd : od.st = .dead) : Fr κ h w κ (h.set id od) w :=
  ⟨.refl _, rfl, rfl, rfl, Nat.le_refl _, fun _ _ _ => rfl, fun k hk => .inl (hk.of_kill hd), fun _ _ h => .inl h⟩

theorem Fr.drew (κ : Cx) (h : AHeap) (w : World) : Fr κ h w κ h w.drew := ⟨.refl _, rfl, rfl, rfl, Nat.le_refl _, fun _ _ _ => rfl, fun _ h => .inl h, fun _ _ h => .inl h⟩

/-- An object under a new number. -/
theorem HR.rename {κ : Cx} {h : AHeap} {w : World} (hh : HR P κ h w) {id : Nat} {o od : AObj} {pl : Pl} (ho : h[id]? = some o) (hp : κ.pl[id]? = some pl) (hrw : o.st.own = true) (hd : od.st = .dead) :
    HR P (κ.add pl) (h.set id od ++ [o]) w := by
  have hk := hh.kill id hd
  have hlen := hk.len
  have hget : ∀ (i : Nat) o', (h.set id od ++ [o])[i]? = some o' → (i < (h.set id od).length ∧ (h.set id od)[i]? = some o') ∨ (i = (h.set id od).length ∧ o' = o) := by
    intro i o' h1
    rcases Nat.lt_trichotomy i (h.set id od).length with hlt | rfl | hgt
    · rw [List.getElem?_append_left hlt] at h1; exact .inl ⟨hlt, h1⟩
    · simp at h1; exact .inr ⟨rfl, h1.symm⟩
    · rw [List.getElem?_eq_none (by simp at hgt ⊢; omega)] at h1; cases h1
  have hpl : ∀ (i : Nat) p, i < (h.set id od).length → (κ.add pl).pl[i]? = some p → κ.pl[i]? = some p := by
    intro i p hi h2
    unfold Cx.add at h2
    rwa [List.getElem?_append_left (by omega)] at h2
  have hpn : ∀ p, (κ.add pl).pl[(h.set id od).length]? = some p → p = pl := by
    intro p h2
    unfold Cx.add at h2
    rw [← hlen] at h2
    simpa using h2.symm
  have hne := @kill_get h id od hd
  refine ⟨by simp [Cx.add, hh.len], fun i o' p h1 h2 h3 => ?_, fun i j o1 o2 p1 p2 h1 h2 h3 h4 h5 h6 h7 => ?_, hh.fz, fun i o' p h1 h2 h3 => ?_, fun i o' p h1 h2 h3 => ?_, hh.gl⟩
  · rcases hget i o' h1 with ⟨hlt, h1⟩ | ⟨e1, e2⟩
    · exact (hk.obj i o' p h1 (hpl i p hlt h2) h3).le (κ.le_add pl) rfl
    · subst e1; subst e2
      rw [hpn p h2]
      exact (hh.obj id _ pl ho hp h3).le (κ.le_add pl) rfl
  · rcases hget i o1 h1 with ⟨hlt, g1⟩ | ⟨e1, e2⟩
    · rcases hget j o2 h2 with ⟨hlt', g2⟩ | ⟨e1, e2⟩
      · exact hk.excl i j o1 o2 p1 p2 g1 g2 (hpl i p1 hlt h3) (hpl j p2 hlt' h4) h5 h6 h7
      · subst e1; subst e2
        rw [hpn p2 h4]
        obtain ⟨n1, n2⟩ := hne i o1 g1 (AKind.own_live h5)
        exact hh.excl i id o1 _ p1 pl n2 ho (hpl i p1 hlt h3) hp h5 h6 n1
    · subst e1; subst e2
      rcases hget j o2 h2 with ⟨hlt', g2⟩ | ⟨e1, e2⟩
      · rw [hpn p1 h3]
        obtain ⟨n1, n2⟩ := hne j o2 g2 h6
        exact hh.excl id j _ o2 pl p2 ho n2 hp (hpl j p2 hlt' h4) h5 h6 (Ne.symm n1)
      · exact absurd e1.symm h7
  · rcases hget i o' h1 with ⟨hlt, g1⟩ | ⟨e1, e2⟩
    · exact hk.nofz i o' p g1 (hpl i p hlt h2) h3
    · subst e1; subst e2
      rw [hpn p h2]
      exact hh.nofz id _ pl ho hp h3
  · rcases hget i o' h1 with ⟨hlt, g1⟩ | ⟨e1, e2⟩
    · exact hk.fzo i o' p g1 (hpl i p hlt h2) h3
    · subst e1; subst e2
      rw [h3] at hrw; cases hrw

theorem Fr.rename {κ : Cx} {h : AHeap} {w : World} (hlen : κ.pl.length = h.length) {id : Nat} {o od : AObj} {pl : Pl} (ho : h[id]? = some o) (hp : κ.pl[id]? = some pl) (hrw : o.st.own = true) (hd : od.st = .dead) :
    Fr κ h w (κ.add pl) (h.set id od ++ [o]) w := by
  refine ⟨κ.le_add pl, rfl, rfl, rfl, Nat.le_refl _, fun _ _ _ => rfl, ?_, fun _ _ h => .inl h⟩
  rintro k ⟨i, o', p, h1, h2, h3, h4⟩
  unfold Cx.add at h2
  rcases Nat.lt_trichotomy i (h.set id od).length with hlt | rfl | hgt
  · rw [List.getElem?_append_left hlt] at h1
    rw [List.getElem?_append_left (by simpa [hlen] using hlt)] at h2
    exact .inl (Owned.of_kill hd ⟨i, o', p, h1, h2, h3, h4⟩)
  · have : p = pl := by
      rw [List.length_set, ← hlen] at h2
      simpa using h2.symm
    subst this
    exact .inl ⟨id, o, p, ho, hp, hrw, h4⟩
  · rw [List.getElem?_eq_none (by simp at hgt ⊢; omega)] at h1; cases h1

/-- The cells that a slice of elements of such a size shows, and how many elements. -/
def srcCells (h : AHeap) (esz : Nat) (v : AV) : Option (List AV × Nat) :=
  match v with
  | .sl none _ _ _ => some ([], 0)
  | .sl (some (id, off)) m e _ =>
    match h[id]? with
    | some o => if o.st = .dead ∨ e ≠ esz then none else if off + m * esz ≤ o.cells.length then some ((o.cells.drop off).take (m * esz), m) else none
    | none => none
  | .im cs m => if cs.length = m * esz then some (cs, m) else none
  | _ => none

theorem srcCells_rel {κ : Cx} {h : AHeap} {w : World} (hh : HR P κ h w) {x : AV} {m esz : Nat} {news : List AV} {v : Value} (hs : srcCells h esz x = some (news, m)) (hm : 0 < m) (hv : VR κ x v) :
    ∃ b c vals, v = .slice (some b) m c ∧ VRL κ news vals ∧ vals.length = m * esz ∧ ∀ (j : Nat) u, vals[j]? = some u → w.cell? (b.add j) = some u := by
  unfold srcCells at hs
  split at hs
  · simp only [Option.some.injEq, Prod.mk.injEq] at hs; omega
  · rename_i id off m' esz' tg
    simp only [VR] at hv
    cases ho : h[id]? with
    | none => rw [ho] at hs; simp at hs
    | some o =>
      rw [ho] at hs
      simp only at hs
      split at hs
      · cases hs
      · rename_i hd
        have hd1 : o.st ≠ .dead := fun e => hd (.inl e)
        have he : esz' = esz := Classical.byContradiction fun e => hd (.inr e)
        subst he
        split at hs
        · rename_i hle
          simp only [Option.some.injEq, Prod.mk.injEq] at hs
          obtain ⟨rfl, rfl⟩ := hs
          rcases hv with ⟨h0, _⟩ | ⟨pl, cap, hp, hv, _⟩
          · omega
          obtain ⟨vs, h1, h2, h3⟩ := hh.cells ho hp hd1 off (m' * esz') hle
          exact ⟨_, cap, vs, hv, h2, h1, h3⟩
        · cases hs
  · split at hs
    rotate_left
    · cases hs
    rename_i hcl
    simp only [Option.some.injEq, Prod.mk.injEq] at hs
    obtain ⟨rfl, rfl⟩ := hs
    simp only [VR] at hv
    rcases hv with ⟨h0, _⟩ | ⟨blk, base, cap, c, hf, hv, hc1, hc2, hb, hr⟩
    · omega
    · refine ⟨_, cap, _, hv, hr.le κ.bare_le, by rw [hr.length, hcl], fun j u hu => hh.icells hf ?_⟩
      rw [List.getElem?_take] at hu; split at hu
      · exact hu
      · cases hu
  · cases hs

/-- What is shown holds no address. -/
def srcFlat (h : AHeap) (v : AV) : Bool :=
  match v with
  | .sl none _ _ _ => true
  | .sl (some (id, _)) _ _ _ =>
    match h[id]? with
    | some o => match o.st with
      | .vec => true
      | .frz => true
      | _ => false
    | none => false
  | .im _ _ => true
  | _ => false

theorem srcCells_bare {κ : Cx} {h : AHeap} {w : World} (hh : HR P κ h w) {x : AV} {m esz : Nat} {news : List AV} {v : Value} (hs : srcCells h esz x = some (news, m)) (hfl : flatL news = true ∨ srcFlat h x = true) (hm : 0 < m) (hv : VR κ x v) :
    ∃ b c vals, v = .slice (some b) m c ∧ VRL κ.bare news vals ∧ vals.length = m * esz ∧ ∀ (j : Nat) u, vals[j]? = some u → w.cell? (b.add j) = some u := by
  rcases hfl with hfl | hfl
  · obtain ⟨b, c, vals, e1, e2, e3⟩ := srcCells_rel hh hs hm hv
    exact ⟨b, c, vals, e1, VRL.flat hfl e2, e3⟩
  unfold srcCells at hs
  split at hs
  · simp only [Option.some.injEq, Prod.mk.injEq] at hs; omega
  · rename_i id off m' esz' tg
    simp only [VR] at hv
    cases ho : h[id]? with
    | none => rw [ho] at hs; simp at hs
    | some o =>
      rw [ho] at hs
      simp only [srcFlat, ho] at hs hfl
      split at hs
      · cases hs
      · rename_i hd
        have hd1 : o.st ≠ .dead := fun e => hd (.inl e)
        have he : esz' = esz := Classical.byContradiction fun e => hd (.inr e)
        subst he
        split at hs
        · rename_i hle
          simp only [Option.some.injEq, Prod.mk.injEq] at hs
          obtain ⟨rfl, rfl⟩ := hs
          rcases hv with ⟨h0, _⟩ | ⟨pl, cap, hp, hv, _⟩
          · omega
          obtain ⟨cur, c1, c2, c3, c4⟩ := hh.obj id o pl ho hp hd1
          have hb : VRL κ.bare o.cells (cur.toList.take o.cells.length) := by
            cases hst : o.st <;> rw [hst] at hfl c4 <;> first | exact c4 | (simp at hfl; done)
          refine ⟨_, cap, _, hv, (hb.drop off).take (m' * esz'), by simp; omega, fun j u hu => ?_⟩
          rw [addr_add, cell_of_row w _ _ _ _ _ c1]
          rw [List.getElem?_take] at hu
          split at hu
          · rw [List.getElem?_drop, List.getElem?_take] at hu
            split at hu
            · rw [← hu]; simp
            · cases hu
          · cases hu
        · cases hs
  · split at hs
    rotate_left
    · cases hs
    rename_i hcl
    simp only [Option.some.injEq, Prod.mk.injEq] at hs
    obtain ⟨rfl, rfl⟩ := hs
    simp only [VR] at hv
    rcases hv with ⟨h0, _⟩ | ⟨blk, base, cap, c, hf, hv, hc1, hc2, hb, hr⟩
    · omega
    · refine ⟨_, cap, _, hv, hr, by rw [hr.length, hcl], fun j u hu => hh.icells hf ?_⟩
      rw [List.getElem?_take] at hu; split at hu
      · exact hu
      · cases hu
  · cases hs

theorem VR.src_zero {κ : Cx} {h : AHeap} {x : AV} {news : List AV} {esz : Nat} {v : Value} (hs : srcCells h esz x = some (news, 0)) (hv : VR κ x v) : ∃ b c, v = .slice b 0 c := by
  unfold srcCells at hs
  split at hs
  · simp only [VR] at hv; exact ⟨none, 0, hv.2⟩
  · rename_i id off m' esz' tg
    obtain ⟨b, c, h1⟩ := hv.slice_len
    cases ho : h[id]? with
    | none => rw [ho] at hs; simp at hs
    | some o =>
      rw [ho] at hs
      simp only at hs
      split at hs
      · cases hs
      · split at hs
        · simp only [Option.some.injEq, Prod.mk.injEq] at hs
          rw [hs.2] at h1; exact ⟨b, c, h1⟩
        · cases hs
  · split at hs
    rotate_left
    · cases hs
    obtain ⟨b, c, h1⟩ := hv.im_len
    simp only [Option.some.injEq, Prod.mk.injEq] at hs
    rw [hs.2] at h1; exact ⟨b, c, h1⟩
  · cases hs

theorem maxLen_eq : maxLen = 9223372036854775807 := rfl

theorem srcCells_both {κ : Cx} {h : AHeap} {w : World} (hh : HR P κ h w) {x : AV} {m esz : Nat} {news0 news : List AV} {v : Value} {k : AKind} (hs : srcCells h esz x = some (news0, m)) (hcn : news = news0 ∨ news = nilL news0) (hk0 : k.own = true)
    (hk : k = .vec → ((news = nilL news0 ∧ flatL news = true) ∨ (news = news0 ∧ (flatL news = true ∨ srcFlat h x = true)))) (hm : 0 < m) (hv : VR κ x v) :
    ∃ b c vals, v = .slice (some b) m c ∧ VRL (κ.at k) news vals ∧ vals.length = m * esz ∧ ∀ (j : Nat) u, vals[j]? = some u → w.cell? (b.add j) = some u := by
  have plain : ∃ b c vals, v = .slice (some b) m c ∧ VRL κ news vals ∧ vals.length = m * esz ∧ ∀ (j : Nat) u, vals[j]? = some u → w.cell? (b.add j) = some u := by
    obtain ⟨b, c, vals, e1, e2, e3⟩ := srcCells_rel hh hs hm hv
    rcases hcn with rfl | rfl
    · exact ⟨b, c, vals, e1, e2, e3⟩
    · exact ⟨b, c, vals, e1, VRL.nilC e2, e3⟩
  cases k with
  | vec =>
    rcases hk rfl with ⟨h1, h2⟩ | ⟨rfl, h2⟩
    · obtain ⟨b, c, vals, e1, e2, e3⟩ := plain
      exact ⟨b, c, vals, e1, VRL.flat h2 e2, e3⟩
    · exact srcCells_bare hh hs h2 hm hv
  | frz => cases hk0
  | rw => exact plain
  | dead => cases hk0

/-- append(nil, xs...), there is one at least. -/
theorem OpV.appendNil {a : AF} {h : AHeap} {o : Oper} {t e : TypeId} {x y : Operand} {m esz esz' : Nat} {tg : Bool} {news0 news zero : List AV} {k : AKind} (hop : o.op = .call { callee := .builtin .append, args := #[x, y], argTypes := #[t, t] })
    (ht : P.underlying t = some (.slice e)) (hz : zeroA P e = some zero) (hs : P.cellsOf e = esz) (hl : zero.length = esz) (hx : a.ev P x = .sl none 0 esz' tg) 
    (hn : srcCells h esz (a.ev P y) = some (news0, m)) (hcn : news = news0 ∨ news = nilL news0) (hk0 : k.own = true) (hk : k = .vec → ((news = nilL news0 ∧ flatL news = true) ∨ (news = news0 ∧ (flatL news = true ∨ srcFlat h (a.ev P y) = true)))) (hm : 0 < m) (hb : m * P.bytesOf e ≤ 140737488355328) (hb2 : m ≤ 9223372036854775807) :
    OpV P a h o (.sl (some (h.length, 0)) m esz false) (h ++ [⟨e, news, k⟩]) := by
  intro κ act w ha hh
  obtain ⟨i, z, g1, g2, g3⟩ := zeroA_rel hz
  have v1 := ha.ev (P := P) hh x
  have v2 := ha.ev (P := P) hh y
  rw [hx] at v1
  simp only [VR] at v1
  obtain ⟨b, c, vals, e1, e2, e3, e4⟩ : ∃ b c vals, act.eval y = .slice (some b) m c ∧ VRL (κ.at k) news vals ∧ vals.length = m * esz ∧ ∀ (j : Nat) u, vals[j]? = some u → w.cell? (b.add j) = some u := by
    exact srcCells_both hh hn hcn hk0 hk hm v2
  have hsize : i.size = esz := by rw [← hs, Program.cellsOf, g1]; rfl
  have hby : P.bytesOf e = i.bytes := by rw [Program.bytesOf, g1]; rfl
  rw [hby] at hb
  have hr := run_append_nil (P := P) w t o.type e i z ht g1 g2 b m c vals (by rw [hsize]; exact e3) e4 hm (by omega) (by omega)
  have hge := grownCap_ge w m 0 e
  have hcm : grownCap w m 0 e ≤ maxLen := grownCap_le_maxLen w m 0 e (by rw [maxLen_eq]; exact hb2)
  have hzl : z.cells.size = esz := by have := (g3 κ).length; simp at this; omega
  have hspare : ((vals ++ (Builtin.zeroCells z.cells (grownCap w m 0 e - m)).toList).length) = grownCap w m 0 e * esz := by
    simp only [List.length_append, Array.length_toList, size_zeroCells, hzl, e3, ← Nat.add_mul]
    congr 1; omega
  have hw : (w.drew.alloc (.cells (vals.toArray ++ Builtin.zeroCells z.cells (grownCap w m 0 e - m)) e)).heap = w.drew.heap.push (.cells (vals ++ (Builtin.zeroCells z.cells (grownCap w m 0 e - m)).toList).toArray e) := by
    show w.heap.push _ = w.heap.push _
    congr 2
    apply Array.ext'
    simp
  have hA := (hh.world (w' := w.drew) rfl).alloc e hk0 e2 hw
  refine ⟨.value (.slice (some ⟨w.heap.size, 0, none⟩) m (grownCap w m 0 e)), _, _, _, ?_, .inl rfl, ?_, hA, (Fr.drew κ h w).trans (Fr.alloc hh.len _ _ rfl _ hw rfl rfl rfl)⟩
  · simp [execOp, hop, v1.2, e1, resolve, invoke, blt_append, hr]
  · simp only [VR]
    refine .inr ⟨_, grownCap w m 0 e, newPl hh.len _, rfl, hge, hcm, ?_, ?_, ?_⟩
    · simp only [hspare]; omega
    · intro h; cases h
    · intro _; simp only [hspare]; omega

/-- append(nil, nothing...). -/
theorem OpV.appendNilNil {a : AF} {h : AHeap} {o : Oper} {t e : TypeId} {d : TypeDesc} {x y : Operand} {esz esz' : Nat} {tg : Bool} {news : List AV} (hop : o.op = .call { callee := .builtin .append, args := #[x, y], argTypes := #[t, t] })
    (ht : P.underlying t = some (.slice e)) (he : P.underlying e = some d) (hx : a.ev P x = .sl none 0 esz' tg) (hy : srcCells h esz (a.ev P y) = some (news, 0)) : OpV P a h o (.sl none 0 esz' tg) h :=
  OpV.pure fun κ act w ha hh => by
    have v1 := ha.ev (P := P) hh x
    have v2 := ha.ev (P := P) hh y
    rw [hx] at v1
    have v1' := v1
    simp only [VR] at v1
    obtain ⟨b, c, v2⟩ := VR.src_zero hy v2
    refine ⟨.slice none 0 0, ?_, by rw [v1.2] at v1'; exact v1'⟩
    have hr : ∀ ty, (Builtin.append_ #[t, t] ty #[.slice none 0 0, .slice b 0 c]).run P w = .ok (.slice none 0 0) w := fun ty => by
      cases b <;> simp [Builtin.append_, run_underlying ht, run_sizeOf' he, Builtin.lenOf, Builtin.firstCells, loadCells, loadCellsFrom]
    simp [execOp, hop, v1.2, v2, resolve, invoke, blt_append, hr]

/-- append(xs, ys...): xs is given up. -/
theorem OpV.append {a : AF} {h : AHeap} {o : Oper} {t e : TypeId} {x y : Operand} {id1 n m esz : Nat} {ob : AObj} {k : AKind} {news0 news zero : List AV} (hop : o.op = .call { callee := .builtin .append, args := #[x, y], argTypes := #[t, t] })
    (ht : P.underlying t = some (.slice e)) (hz : zeroA P e = some zero) (hs : P.cellsOf e = esz) (hl : zero.length = esz) (hx : a.ev P x = .sl (some (id1, 0)) n esz false) (ho : h[id1]? = some ob) (hrw : ob.st.own = true) (hty : ob.ty = e)
    (hle : n * esz ≤ ob.cells.length) 
    (hn : srcCells h esz (a.ev P y) = some (news0, m)) (hcn : news = news0 ∨ news = nilL news0) (hk0 : k.own = true) (hk : k = .vec → ob.st = .vec ∧ ((news = nilL news0 ∧ flatL news = true) ∨ (news = news0 ∧ (flatL news = true ∨ srcFlat h (a.ev P y) = true)))) (hone : news.all AV.one = true) (hm : 0 < m) (hb : (n + m) * P.bytesOf e ≤ 140737488355328) (hb2 : n + m ≤ 9223372036854775807) :
    OpV P a h o (.sl (some (h.length, 0)) (n + m) esz false) (h.set id1 deadObj ++ [⟨e, ob.cells.take (n * esz) ++ news, k⟩]) := by
  intro κ act w ha hh
  obtain ⟨i, z, g1, g2, g3⟩ := zeroA_rel hz
  have v1 := ha.ev (P := P) hh x
  have v2 := ha.ev (P := P) hh y
  rw [hx] at v1
  simp only [VR] at v1
  obtain ⟨b, c, vals, e1, e2', e3, e4⟩ : ∃ b c vals, act.eval y = .slice (some b) m c ∧ VRL (κ.at k) news vals ∧ vals.length = m * esz ∧ ∀ (j : Nat) u, vals[j]? = some u → w.cell? (b.add j) = some u := by
    exact srcCells_both hh hn hcn hk0 (fun e => (hk e).2) hm v2
  have e2 : VRL κ news vals := e2'.le (κ.at_le k)
  have hsize : i.size = esz := by rw [← hs, Program.cellsOf, g1]; rfl
  have hby : P.bytesOf e = i.bytes := by rw [Program.bytesOf, g1]; rfl
  rw [hby] at hb
  rcases v1 with ⟨_, hbad, _⟩ | ⟨pl, cap, hp, hv, hc1, hc2, hc3, _, hc5⟩
  · exact absurd rfl hbad
  have hc5 := hc5 trivial
  obtain ⟨cur, c1, c2, c3, c4⟩ := hh.obj id1 ob pl ho hp (AKind.own_live hrw)
  subst hty
  simp only [Nat.zero_add, Nat.add_zero] at hv hc5 hc3
  have hvone := e2.one hone
  have holds : VRL (κ.at ob.st) (ob.cells.take (n * esz)) (cur.toList.take (n * esz)) := by
    have := c4.take (n * esz)
    rwa [List.take_take, Nat.min_eq_left hle] at this
  have holdk : VRL (κ.at k) (ob.cells.take (n * esz)) (cur.toList.take (n * esz)) := by
    cases k with
    | vec => rw [(hk rfl).1] at holds; exact holds
    | rw => exact holds.le (κ.at_le _)
    | frz => cases hk0
    | dead => cases hk0
  by_cases hroom : n + m ≤ cap
  · have hmul : (n + m) * esz ≤ cap * esz := Nat.mul_le_mul_right _ hroom
    have hmul2 : (n + m) * esz = n * esz + m * esz := Nat.add_mul ..
    have hr := run_append_room (P := P) w t o.type _ i ht g1 pl.blk n cap cur c1 b m c vals (by rw [hsize]; exact e3) e4 hvone hroom (by rw [hsize, e3, c2]; omega)
    rw [hsize] at hr
    have hcl : cur.toList.length = cur.size := by simp
    have hnl := e2.length
    -- the object is of kind k from now on
    have hh0 : HR P κ (h.set id1 { ob with cells := ob.cells.take (n * esz), st := k }) w := by
      have hid := (List.getElem?_eq_some_iff.1 ho).1
      refine hh.of_like (by simp) fun i o' pl' h1 h2 h3 => ?_
      by_cases hi : i = id1
      · subst hi
        rw [List.getElem?_set_self hid] at h1
        cases h1
        rw [hp] at h2; cases h2
        refine ⟨ob, ho, AKind.own_live hrw, fun _ => hrw, fun (e : k = .frz) => (by rw [e] at hk0; cases hk0), fun _ => ⟨cur, c1, c2, by simp; omega, ?_⟩⟩
        simp only [List.length_take]
        rw [Nat.min_eq_left hle]
        exact holdk
      · rw [List.getElem?_set_ne (Ne.symm hi)] at h1
        exact ⟨o', h1, h3, fun h => h, fun h => h, fun h => h⟩
    have hid := (List.getElem?_eq_some_iff.1 ho).1
    have hset : HR P κ ((h.set id1 { ob with cells := ob.cells.take (n * esz), st := k }).set id1 { ob with cells := ob.cells.take (n * esz) ++ news, st := k }) (w.setRow pl.blk (cur.toList.take (n * esz) ++ vals ++ cur.toList.drop (n * esz + vals.length)).toArray) := by
      refine hh0.set (o := { ob with cells := ob.cells.take (n * esz), st := k }) (List.getElem?_set_self hid) hp hk0 c1 (by simp; omega) (by simp; omega) ?_
      simp only [List.append_assoc]
      have hlen1 : (ob.cells.take (n * esz) ++ news).length = (cur.toList.take (n * esz) ++ vals).length := by simp; omega
      rw [hlen1, ← List.append_assoc, List.take_left]
      exact holdk.append e2'
    rw [List.set_set] at hset
    have hset' := hset.rename (id := id1) (o := { ob with cells := ob.cells.take (n * esz) ++ news, st := k }) (od := deadObj) (List.getElem?_set_self hid) hp hk0 rfl
    rw [List.set_set] at hset'
    have hfr := (Fr.set (w := w) (o' := { ob with cells := ob.cells.take (n * esz) ++ news, st := k }) ho hp hrw (cur.toList.take (n * esz) ++ vals ++ cur.toList.drop (n * esz + vals.length)).toArray).trans
      (Fr.rename (w := w.setRow pl.blk (cur.toList.take (n * esz) ++ vals ++ cur.toList.drop (n * esz + vals.length)).toArray) (by simp [hh.len]) (o := { ob with cells := ob.cells.take (n * esz) ++ news, st := k }) (od := deadObj) (List.getElem?_set_self hid) hp hk0 rfl)
    rw [List.set_set] at hfr
    refine ⟨.value (.slice (some ⟨pl.blk, 0, none⟩) (n + m) cap), _, _, _, ?_, .inl rfl, ?_, hset', hfr⟩
    · simp [execOp, hop, hv, e1, resolve, invoke, blt_append, hr]
    · simp only [VR]
      refine .inr ⟨pl, cap, (by simp only [Cx.add]; rw [← hh.len]; simp), rfl, hroom, hc2, ?_, ?_, ?_⟩
      · omega
      · intro h; cases h
      · intro _; omega
  · have holdcells : ∀ (j : Nat) u, (cur.toList.take (n * esz))[j]? = some u → w.cell? ((⟨pl.blk, 0, none⟩ : Addr).add j) = some u := by
      intro j u hu
      rw [addr_add, Nat.zero_add, cell_of_row w _ _ _ _ _ c1]
      rw [List.getElem?_take] at hu
      split at hu
      · simpa using hu
      · cases hu
    have holdlen : (cur.toList.take (n * esz)).length = n * i.size := by rw [holds.length, List.length_take, Nat.min_eq_left hle, hsize]
    have hr := run_append_grow (P := P) w t o.type _ i z ht g1 g2 ⟨pl.blk, 0, none⟩ n cap _ holdlen holdcells b m c vals (by rw [hsize]; exact e3) e4 (by omega) (by omega) (growslice_fits (by omega) hb)
    have hge := grownCap_ge w (n + m) cap ob.ty
    have hcm : grownCap w (n + m) cap ob.ty ≤ maxLen := grownCap_le_maxLen w (n + m) cap ob.ty (by rw [maxLen_eq]; exact hb2)
    have hzl : z.cells.size = esz := by have := (g3 κ).length; simp at this; omega
    have hnl := e2.length
    have hspare : (((cur.toList.take (n * esz) ++ vals) ++ (Builtin.zeroCells z.cells (grownCap w (n + m) cap ob.ty - (n + m))).toList).length) = grownCap w (n + m) cap ob.ty * esz := by
      have h1 : (cur.toList.take (n * esz)).length = n * esz := by rw [holdlen, hsize]
      simp only [List.length_append, h1, Array.length_toList, size_zeroCells, hzl, e3, ← Nat.add_mul]
      congr 1; omega
    have hw : (w.drew.alloc (.cells ((cur.toList.take (n * esz)).toArray ++ vals.toArray ++ Builtin.zeroCells z.cells (grownCap w (n + m) cap ob.ty - (n + m))) ob.ty)).heap =
        w.drew.heap.push (.cells ((cur.toList.take (n * esz) ++ vals) ++ (Builtin.zeroCells z.cells (grownCap w (n + m) cap ob.ty - (n + m))).toList).toArray ob.ty) := by
      show w.heap.push _ = w.heap.push _
      congr 2
      apply Array.ext'
      simp
    have hkk : HR P κ (h.set id1 deadObj) w.drew := (hh.kill id1 rfl).world rfl
    have hA := hkk.alloc ob.ty hk0 (holdk.append e2') hw
    refine ⟨.value (.slice (some ⟨w.heap.size, 0, none⟩) (n + m) (grownCap w (n + m) cap ob.ty)), _, _, _, ?_, .inl rfl, ?_, hA, ((Fr.kill κ h w id1 rfl).trans (Fr.drew κ _ w)).trans (Fr.alloc hkk.len _ _ rfl _ hw rfl rfl rfl)⟩
    · simp [execOp, hop, hv, e1, resolve, invoke, blt_append, hr]
    · simp only [VR]
      refine .inr ⟨_, grownCap w (n + m) cap ob.ty, newPl hh.len _, rfl, hge, hcm, ?_, ?_, ?_⟩
      · simp only [hspare]; omega
      · intro h; cases h
      · intro _; simp only [hspare]; omega

end Go.S2
