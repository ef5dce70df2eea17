/- The operations over the abstract reading. -/
import Derived.Test.YtabobghngfmilaaDoorS2B
namespace Go.S2
variable {P : Program}

/-! ### How the heap's reading goes on -/

theorem HR.lt {κ : Cx} {h : AHeap} {w : World} (hh : HR P κ h w) {id : Nat} {o : AObj} (ho : h[id]? = some o) : ∃ pl, κ.pl[id]? = some pl := by
  have : id < κ.pl.length := by rw [hh.len]; exact (List.getElem?_eq_some_iff.1 ho).1
  exact ⟨κ.pl[id], List.getElem?_eq_getElem this⟩

theorem ObjR.le {κ κ' : Cx} (hl : κ.le κ') {o : AObj} {pl : Pl} {w w' : World} (h : ObjR κ o pl w) (hb : w'.heap[pl.blk]? = w.heap[pl.blk]?) : ObjR κ' o pl w' := by
  obtain ⟨cur, h1, h2, h3, h4⟩ := h
  exact ⟨cur, by rw [hb]; exact h1, h2, h3, h4.le (hl.at _)⟩

theorem ObjR.blk_lt {κ : Cx} {o : AObj} {pl : Pl} {w : World} (h : ObjR κ o pl w) : pl.blk < w.heap.size := by
  obtain ⟨cur, h1, _⟩ := h
  exact (Array.getElem?_eq_some_iff.1 h1).1

theorem HR.world {κ : Cx} {h : AHeap} {w w' : World} (hh : HR P κ h w) (hw : w'.heap = w.heap) : HR P κ h w' :=
  ⟨hh.len, fun id o pl h1 h2 h3 => by
    obtain ⟨cur, h4⟩ := hh.obj id o pl h1 h2 h3
    exact ⟨cur, by rw [hw]; exact h4⟩, hh.excl, fun b c h => by rw [hw]; exact hh.fz b c h, hh.nofz, hh.fzo, hh.gl⟩

/-- One place more. -/
def Cx.add (κ : Cx) (pl : Pl) : Cx := ⟨κ.pl ++ [pl], κ.fz⟩
theorem Cx.le_add (κ : Cx) (pl : Pl) : κ.le (κ.add pl) := ⟨⟨[pl], rfl⟩, fun _ _ h => h⟩

theorem HR.fz_lt {κ : Cx} {h : AHeap} {w : World} (hh : HR P κ h w) {b : Nat} {c : List Value} (hf : κ.fz b = some c) : b < w.heap.size := by
  obtain ⟨cur, e, z, h1, _⟩ := hh.fz b c hf
  exact (Array.getElem?_eq_some_iff.1 h1).1

/-- A new block. -/
theorem HR.alloc {κ : Cx} {h : AHeap} {w : World} (hh : HR P κ h w) {w' : World} (e : TypeId) {cells : List AV} {k : AKind} (hk : k.own = true) {vals spare : List Value} (hv : VRL (κ.at k) cells vals)
    (hw : w'.heap = w.heap.push (.cells (vals ++ spare).toArray e)) :
    HR P (κ.add ⟨w.heap.size, (vals ++ spare).length⟩) (h ++ [⟨e, cells, k⟩]) w' := by
  have hlen := hh.len
  have hold : ∀ k, k < w.heap.size → w'.heap[k]? = w.heap[k]? := fun k hk => by rw [hw, Array.getElem?_push, if_neg (Nat.ne_of_lt hk)]
  have hget : ∀ (id : Nat) o, (h ++ [⟨e, cells, k⟩])[id]? = some o → (id < h.length ∧ h[id]? = some o) ∨ (id = h.length ∧ o = ⟨e, cells, k⟩) := by
    intro id o ho
    rcases Nat.lt_trichotomy id h.length with hlt | rfl | hgt
    · rw [List.getElem?_append_left hlt] at ho; exact .inl ⟨hlt, ho⟩
    · simp at ho; exact .inr ⟨rfl, ho.symm⟩
    · rw [List.getElem?_eq_none (by simp; omega)] at ho; cases ho
  have hpl : ∀ (id : Nat) pl, id < h.length → (κ.add ⟨w.heap.size, (vals ++ spare).length⟩).pl[id]? = some pl → κ.pl[id]? = some pl := by
    intro id pl hid hp
    unfold Cx.add at hp
    rwa [List.getElem?_append_left (by omega)] at hp
  have hpn : ∀ pl, (κ.add (⟨w.heap.size, (vals ++ spare).length⟩ : Pl)).pl[h.length]? = some pl → pl = ⟨w.heap.size, (vals ++ spare).length⟩ := by
    intro pl hp
    unfold Cx.add at hp
    rw [← hlen] at hp
    simpa using hp.symm
  refine ⟨by simp [Cx.add, hlen], fun id o pl h1 h2 h3 => ?_, fun i j o o' pl pl' h1 h2 h3 h4 h5 h6 h7 => ?_, fun b c hf => ?_, fun id o pl h1 h2 h3 => ?_, fun id o pl h1 h2 h3 => ?_, hh.gl⟩
  · rcases hget id o h1 with ⟨hlt, ho⟩ | ⟨rfl, rfl⟩
    · have hp := hpl id pl hlt h2
      have := hh.obj id o pl ho hp h3
      exact this.le (κ.le_add _) (hold _ this.blk_lt)
    · rw [hpn pl h2]
      refine ⟨(vals ++ spare).toArray, by simp [hw], by simp, by simp [hv.length], ?_⟩
      simp only
      rw [← hv.length, List.take_left]
      exact hv.le ((κ.le_add _).at k)
  · rcases hget i o h1 with ⟨hlt, ho⟩ | ⟨rfl, rfl⟩
    · have hp := hpl i pl hlt h3
      have hb := (hh.obj i o pl ho hp (AKind.own_live h5)).blk_lt
      rcases hget j o' h2 with ⟨hlt', ho'⟩ | ⟨rfl, rfl⟩
      · exact hh.excl i j o o' pl pl' ho ho' hp (hpl j pl' hlt' h4) h5 h6 h7
      · rw [hpn pl' h4]; exact Nat.ne_of_lt hb
    · rcases hget j o' h2 with ⟨hlt', ho'⟩ | ⟨rfl, rfl⟩
      · have hp' := hpl j pl' hlt' h4
        have hb := (hh.obj j o' pl' ho' hp' h6).blk_lt
        rw [hpn pl h3]; exact (Nat.ne_of_lt hb).symm
      · exact absurd rfl h7
  · obtain ⟨cur, e', z, h1, h2⟩ := hh.fz b c hf
    exact ⟨cur, e', z, by rw [hold _ (hh.fz_lt hf)]; exact h1, h2⟩
  · rcases hget id o h1 with ⟨hlt, ho⟩ | ⟨rfl, rfl⟩
    · exact hh.nofz id o pl ho (hpl id pl hlt h2) h3
    · rw [hpn pl h2]
      cases hc : κ.fz w.heap.size with
      | none => exact hc
      | some c => exact absurd (hh.fz_lt hc) (Nat.lt_irrefl _)
  · rcases hget id o h1 with ⟨hlt, ho⟩ | ⟨rfl, rfl⟩
    · exact hh.fzo id o pl ho (hpl id pl hlt h2) h3
    · simp only at h3; subst h3; cases hk

theorem Fr.alloc {κ : Cx} {h : AHeap} {w w' : World} (hlen : κ.pl.length = h.length) (o : AObj) (pl : Pl) (hpl : pl.blk = w.heap.size) (x : Obj)
    (hw : w'.heap = w.heap.push x) (h1 : w'.os = w.os) (h2 : w'.tape = w.tape) (h3 : w'.output = w.output) : Fr κ h w (κ.add pl) (h ++ [o]) w' := by
  refine ⟨κ.le_add pl, h1, h2, h3, by simp [hw], fun k hk _ => by rw [hw, Array.getElem?_push, if_neg (Nat.ne_of_lt hk)], ?_, fun _ _ h => .inl h⟩
  rintro k ⟨id, o', pl', ho, hp, hrw, hk⟩
  unfold Cx.add at hp
  rcases Nat.lt_trichotomy id h.length with hlt | rfl | hgt
  · rw [List.getElem?_append_left hlt] at ho
    rw [List.getElem?_append_left (by omega)] at hp
    exact .inl ⟨id, o', pl', ho, hp, hrw, hk⟩
  · rw [← hlen] at hp
    simp at hp
    subst hp
    exact .inr (by omega)
  · rw [List.getElem?_eq_none (by simp; omega)] at ho; cases ho

/-- Cells written in an object. -/
theorem HR.set {κ : Cx} {h : AHeap} {w : World} (hh : HR P κ h w) {id : Nat} {o : AObj} {pl : Pl} (ho : h[id]? = some o) (hp : κ.pl[id]? = some pl) (hrw : o.st.own = true)
    {cur : Array Value} (hcur : w.heap[pl.blk]? = some (.cells cur o.ty (0, 0))) {cells : List AV} {cur' : Array Value} (hs : cur'.size = cur.size) (hl : cells.length ≤ cur'.size)
    (hv : VRL (κ.at o.st) cells (cur'.toList.take cells.length)) : HR P κ (h.set id { o with cells := cells }) (w.setRow pl.blk cur') := by
  have hid : id < h.length := (List.getElem?_eq_some_iff.1 ho).1
  have hget : ∀ (i : Nat) o', (h.set id { o with cells := cells })[i]? = some o' → (i = id ∧ o' = { o with cells := cells }) ∨ (i ≠ id ∧ h[i]? = some o') := by
    intro i o' h1
    by_cases hi : i = id
    · subst hi
      rw [List.getElem?_set_self hid] at h1
      exact .inl ⟨rfl, (Option.some.inj h1).symm⟩
    · rw [List.getElem?_set_ne (Ne.symm hi)] at h1
      exact .inr ⟨hi, h1⟩
  have hlv := AKind.own_live hrw
  obtain ⟨cur0, c1, c2, c3, c4⟩ := hh.obj id o pl ho hp hlv
  rw [hcur] at c1
  cases c1
  refine ⟨by simp [hh.len], fun i o' pl' h1 h2 h3 => ?_, fun i j o1 o2 pl1 pl2 h1 h2 h3 h4 h5 h6 h7 => ?_, fun b c hf => ?_, fun i o' pl' h1 h2 h3 => ?_, fun i o' pl' h1 h2 h3 => ?_, hh.gl⟩
  · rcases hget i o' h1 with ⟨rfl, rfl⟩ | ⟨hne, h1⟩
    · rw [hp] at h2; cases h2
      exact ⟨cur', setRow_heap w _ _ _ _ _ hcur, by rw [hs]; exact c2, hl, hv⟩
    · have hO' := hh.obj i o' pl' h1 h2 h3
      have hb := hh.excl id i o o' pl pl' ho h1 hp h2 hrw h3 (Ne.symm hne)
      exact hO'.le (.refl _) (w' := w.setRow pl.blk cur') (setRow_other w _ _ _ (Ne.symm hb))
  · rcases hget i o1 h1 with ⟨e1, e2⟩ | ⟨hne, g1⟩
    · subst e1; subst e2
      rcases hget j o2 h2 with ⟨e1, e2⟩ | ⟨hne', g2⟩
      · exact absurd e1.symm h7
      · exact hh.excl _ j o o2 pl1 pl2 ho g2 h3 h4 h5 h6 h7
    · rcases hget j o2 h2 with ⟨e1, e2⟩ | ⟨hne', g2⟩
      · subst e1; subst e2
        exact hh.excl i _ o1 o pl1 pl2 g1 ho h3 h4 h5 hlv h7
      · exact hh.excl i j o1 o2 pl1 pl2 g1 g2 h3 h4 h5 h6 h7
  · obtain ⟨cur1, e', z, h1, h2⟩ := hh.fz b c hf
    have hne : b ≠ pl.blk := fun e => by
      have := hh.nofz id o pl ho hp hrw
      rw [← e, hf] at this; cases this
    exact ⟨cur1, e', z, by rw [setRow_other w _ _ _ hne]; exact h1, h2⟩
  · rcases hget i o' h1 with ⟨e1, e2⟩ | ⟨hne, g1⟩
    · subst e1; subst e2
      exact hh.nofz i o pl' ho h2 hrw
    · exact hh.nofz i o' pl' g1 h2 h3
  · rcases hget i o' h1 with ⟨e1, e2⟩ | ⟨hne, g1⟩
    · subst e1; subst e2
      exact hh.fzo i o pl' ho h2 h3
    · exact hh.fzo i o' pl' g1 h2 h3

theorem Fr.set {κ : Cx} {h : AHeap} {w : World} {id : Nat} {o o' : AObj} {pl : Pl} (ho : h[id]? = some o) (hp : κ.pl[id]? = some pl) (hrw : o.st.own = true) (cur' : Array Value) :
    Fr κ h w κ (h.set id o') (w.setRow pl.blk cur') := by
  refine ⟨.refl _, rfl, rfl, rfl, by simp, fun k _ hk => setRow_other w _ _ _ fun e => hk ⟨id, o, pl, ho, hp, hrw, e.symm⟩, ?_, fun _ _ h => .inl h⟩
  rintro k ⟨i, o1, pl1, h1, h2, h3, h4⟩
  by_cases hi : i = id
  · subst hi; rw [hp] at h2; cases h2; exact .inl ⟨i, o, pl, ho, hp, hrw, h4⟩
  · rw [List.getElem?_set_ne (Ne.symm hi)] at h1; exact .inl ⟨i, o1, pl1, h1, h2, h3, h4⟩

/-! ### Reading cells -/

theorem HR.cell {κ : Cx} {h : AHeap} {w : World} (hh : HR P κ h w) {id : Nat} {o : AObj} {pl : Pl} (ho : h[id]? = some o) (hp : κ.pl[id]? = some pl) (hd : o.st ≠ .dead) {j : Nat} {x : AV}
    (hx : o.cells[j]? = some x) : ∃ v, w.cell? ⟨pl.blk, j, none⟩ = some v ∧ VR κ x v := by
  obtain ⟨cur, c1, c2, c3, c4⟩ := hh.obj id o pl ho hp hd
  obtain ⟨v, hv1, hv2⟩ := c4.get hx
  refine ⟨v, ?_, hv2.le (κ.at_le _)⟩
  rw [cell_of_row w _ _ _ _ _ c1]
  rw [List.getElem?_take] at hv1
  split at hv1
  · simpa using hv1
  · cases hv1

theorem addr_add (b o j : Nat) : (⟨b, o, none⟩ : Addr).add j = ⟨b, o + j, none⟩ := by unfold Addr.add; split <;> simp_all

theorem HR.cells {κ : Cx} {h : AHeap} {w : World} (hh : HR P κ h w) {id : Nat} {o : AObj} {pl : Pl} (ho : h[id]? = some o) (hp : κ.pl[id]? = some pl) (hd : o.st ≠ .dead) (off n : Nat) (hn : off + n ≤ o.cells.length) :
    ∃ vs : List Value, vs.length = n ∧ VRL κ ((o.cells.drop off).take n) vs ∧ ∀ j v, vs[j]? = some v → w.cell? ((⟨pl.blk, off, none⟩ : Addr).add j) = some v := by
  obtain ⟨cur, c1, c2, c3, c4⟩ := hh.obj id o pl ho hp hd
  have c6 := (c4.drop off).take n
  refine ⟨_, by simpa using by omega, c6.le (κ.at_le _), fun j v hv => ?_⟩
  rw [addr_add, cell_of_row w _ _ _ _ _ c1]
  rw [List.getElem?_take] at hv
  split at hv
  · rw [List.getElem?_drop, List.getElem?_take] at hv
    split at hv
    · rw [← hv]; simp
    · cases hv
  · cases hv

/-- Cells of a frozen block. -/
theorem HR.icells {κ : Cx} {h : AHeap} {w : World} (hh : HR P κ h w) {blk base : Nat} {c : List Value} (hf : κ.fz blk = some c) {j : Nat} {v : Value} (hv : (c.drop base)[j]? = some v) : w.cell? ((⟨blk, base, none⟩ : Addr).add j) = some v := by
  obtain ⟨cur, e, z, h1, h2⟩ := hh.fz blk c hf
  rw [addr_add, cell_of_row w _ _ _ _ _ h1]
  rw [List.getElem?_drop, ← h2] at hv
  simpa using hv

def aggD : TypeDesc → Bool
  | .struct _ | .array _ _ => true
  | _ => false

theorem run_isAgg {t : TypeId} {d : TypeDesc} (h : P.underlying t = some d) (w : World) : (isAgg t).run P w = .ok (aggD d) w := by
  cases d <;> simp [isAgg, run_underlying h, aggD]

theorem cellsOf_info {t : TypeId} (h : P.cellsOf t ≠ 0) : ∃ i, P.info? t = some i ∧ P.cellsOf t = i.size := by
  unfold Program.cellsOf at h ⊢
  cases hi : P.info? t with
  | none => rw [hi] at h; simp at h
  | some i => exact ⟨i, rfl, by simp⟩

theorem und_info {t : TypeId} {d : TypeDesc} (h : P.underlying t = some d) : ∃ i, P.info? t = some i ∧ P.cellsOf t = i.size := by
  unfold Program.underlying at h
  unfold Program.cellsOf
  cases hi : P.info? t with
  | none => rw [hi] at h; simp at h
  | some i => exact ⟨i, rfl, by simp⟩

theorem run_sizeOf' {t : TypeId} {d : TypeDesc} (h : P.underlying t = some d) (w : World) : (sizeOf t).run P w = .ok (P.cellsOf t) w := by
  obtain ⟨i, h1, h2⟩ := und_info h
  simp [sizeOf, typeInfo, h1, h2]

theorem ald_sound {κ : Cx} {h : AHeap} {w : World} (hh : HR P κ h w) {t : TypeId} {id off : Nat} {v : AV} (hl : ald P h t id off = some v) {pl : Pl} (hp : κ.pl[id]? = some pl) :
    ∃ val, (loadVar t ⟨pl.blk, off, none⟩).run P w = .ok val w ∧ VR κ v val := by
  unfold ald at hl
  cases ho : h[id]? with
  | none => rw [ho] at hl; simp at hl
  | some o =>
    rw [ho] at hl
    simp only at hl
    by_cases hd : o.st = .dead
    · rw [if_pos hd] at hl; cases hl
    · rw [if_neg hd] at hl
      cases hu : P.underlying t with
      | none => rw [hu] at hl; cases hl
      | some d =>
        rw [hu] at hl
        have hscalar : aggD d = false → o.cells[off]? = some v → ∃ val, (loadVar t ⟨pl.blk, off, none⟩).run P w = .ok val w ∧ VR κ v val := by
          intro hag hx
          obtain ⟨val, h1, h2⟩ := hh.cell ho hp hd hx
          exact ⟨val, by simp [loadVar, run_isAgg hu, hag, h1], h2⟩
        have hagg : aggD d = true → off + P.cellsOf t ≤ o.cells.length → .ag ((o.cells.drop off).take (P.cellsOf t)) = v → ∃ val, (loadVar t ⟨pl.blk, off, none⟩).run P w = .ok val w ∧ VR κ v val := by
          intro hag hle hv
          subst hv
          obtain ⟨vs, h1, h2, h3⟩ := hh.cells ho hp hd off (P.cellsOf t) hle
          have h4 := run_loadCells_list (P := P) w _ vs h3
          rw [h1] at h4
          exact ⟨.agg vs.toArray, by simp [loadVar, run_isAgg hu, hag, run_sizeOf' hu, h4], by simp only [VR]; exact ⟨vs, rfl, h2⟩⟩
        cases d with
        | struct fs =>
          simp only at hl
          split at hl
          · rename_i hle; exact hagg rfl hle (Option.some.inj hl)
          · cases hl
        | array n e =>
          simp only at hl
          split at hl
          · rename_i hle; exact hagg rfl hle (Option.some.inj hl)
          · cases hl
        | _ => exact hscalar rfl hl

theorem aldI_sound {κ : Cx} {h : AHeap} {w : World} (hh : HR P κ h w) {t : TypeId} {cs : List AV} {v : AV} (hl : aldI P t cs = some v) {blk base : Nat} {c : List Value} (hf : κ.fz blk = some c)
    (hv : VRL ⟨[], κ.fz⟩ cs ((c.drop base).take cs.length)) :
    ∃ val, (loadVar t ⟨blk, base, none⟩).run P w = .ok val w ∧ VR κ v val := by
  unfold aldI at hl
  cases hu : P.underlying t with
  | none => rw [hu] at hl; cases hl
  | some d =>
    rw [hu] at hl
    have hle : Cx.le ⟨[], κ.fz⟩ κ := κ.bare_le
    have hscalar : aggD d = false → cs[0]? = some v → ∃ val, (loadVar t ⟨blk, base, none⟩).run P w = .ok val w ∧ VR κ v val := by
      intro hag hx
      obtain ⟨val, h1, h2⟩ := hv.get hx
      have h3 : (c.drop base)[0]? = some val := by
        rw [List.getElem?_take] at h1; split at h1
        · exact h1
        · cases h1
      have h4 := hh.icells hf h3
      rw [addr_add, Nat.add_zero] at h4
      exact ⟨val, by simp [loadVar, run_isAgg hu, hag, h4], h2.le hle⟩
    have hagg : aggD d = true → P.cellsOf t ≤ cs.length → .ag (cs.take (P.cellsOf t)) = v → ∃ val, (loadVar t ⟨blk, base, none⟩).run P w = .ok val w ∧ VR κ v val := by
      intro hag hle' hv'
      subst hv'
      have hvt := hv.take (P.cellsOf t)
      have hlen := hvt.length
      have h4 := run_loadCells_list (P := P) (a := ⟨blk, base, none⟩) w (((c.drop base).take cs.length).take (P.cellsOf t)) fun j u hj => hh.icells hf (by
        rw [List.take_take, List.getElem?_take] at hj; split at hj
        · exact hj
        · cases hj)
      rw [hlen, List.length_take, Nat.min_eq_left hle'] at h4
      exact ⟨.agg (List.take (P.cellsOf t) (List.take cs.length (List.drop base c))).toArray, by simp [loadVar, run_isAgg hu, hag, run_sizeOf' hu, h4], by simp only [VR]; exact ⟨_, rfl, hvt.le hle⟩⟩
    cases d with
    | struct fs =>
      simp only at hl
      split at hl
      · rename_i hle; exact hagg rfl hle (Option.some.inj hl)
      · cases hl
    | array n e =>
      simp only at hl
      split at hl
      · rename_i hle; exact hagg rfl hle (Option.some.inj hl)
      · cases hl
    | _ => exact hscalar rfl hl

/-! ### An operation that leaves the world alone -/

theorem OpV.pure {a : AF} {h : AHeap} {o : Oper} {v : AV} (H : ∀ κ act w, AR κ a act → HR P κ h w → ∃ val, (execOp act.eval o).run P w = .ok (.value val) w ∧ VR κ v val) : OpV P a h o v h :=
  fun κ act w ha hh => let ⟨val, h1, h2⟩ := H κ act w ha hh; ⟨.value val, val, w, κ, h1, .inl rfl, h2, hh, Fr.refl _ _ _⟩

theorem OpV.move {a : AF} {h : AHeap} {o : Oper} {x : Operand} (hop : o.op = .move x ∨ o.op = .assign x) : OpV P a h o (a.ev P x) h :=
  OpV.pure fun κ act w ha hh => ⟨act.eval x, by rcases hop with e | e <;> simp [execOp, e], ha.ev (P := P) hh x⟩

theorem OpV.pick {a : AF} {h : AHeap} {o : Oper} {c x y : Operand} {t : Bool} (hop : o.op = .pick c x y) (hc : a.ev P c = .b t) : OpV P a h o (if t = true then a.ev P x else a.ev P y) h :=
  OpV.pure fun κ act w ha hh => by
    have hv := ha.ev (P := P) hh c
    rw [hc] at hv
    simp only [VR] at hv
    cases t
    · exact ⟨act.eval y, by simp [execOp, hop, hv, asBool], by simpa using ha.ev (P := P) hh y⟩
    · exact ⟨act.eval x, by simp [execOp, hop, hv, asBool], by simpa using ha.ev (P := P) hh x⟩

theorem OpV.load {a : AF} {h : AHeap} {o : Oper} {t : TypeId} {x : Operand} {id off : Nat} {v : AV} (hop : o.op = .load t x) (hx : a.ev P x = .p (some (id, off))) (hl : ald P h t id off = some v) : OpV P a h o v h :=
  OpV.pure fun κ act w ha hh => by
    have hv := ha.ev (P := P) hh x
    rw [hx] at hv
    simp only [VR] at hv
    obtain ⟨pl, hp, hv⟩ := hv
    obtain ⟨val, h1, h2⟩ := ald_sound hh hl hp
    exact ⟨val, by simp [execOp, hop, hv, Instr.loadAt, Instr.sureAddr, h1], h2⟩

theorem OpV.loadI {a : AF} {h : AHeap} {o : Oper} {t : TypeId} {x : Operand} {cs : List AV} {v : AV} (hop : o.op = .load t x) (hx : a.ev P x = .ip cs) (hl : aldI P t cs = some v) : OpV P a h o v h :=
  OpV.pure fun κ act w ha hh => by
    have hv := ha.ev (P := P) hh x
    rw [hx] at hv
    simp only [VR] at hv
    obtain ⟨blk, base, c, hf, hv, hb, hr⟩ := hv
    obtain ⟨val, h1, h2⟩ := aldI_sound hh hl hf hr
    exact ⟨val, by simp [execOp, hop, hv, Instr.loadAt, Instr.sureAddr, h1], h2⟩

theorem OpV.nilCheckI {a : AF} {h : AHeap} {o : Oper} {x : Operand} {cs : List AV} (hop : o.op = .nilCheck x) (hx : a.ev P x = .ip cs) : OpV P a h o (.ip cs) h :=
  OpV.pure fun κ act w ha hh => by
    have hv := ha.ev (P := P) hh x
    rw [hx] at hv
    have hv' := hv
    simp only [VR] at hv
    obtain ⟨blk, base, c, hf, hv, hb, hr⟩ := hv
    exact ⟨act.eval x, by simp [execOp, hop, hv], hv'⟩

theorem VRL.cut {κ : Cx} {cs : List AV} {c : List Value} {base : Nat} (hb : base + cs.length ≤ c.length) (h : VRL κ cs ((c.drop base).take cs.length)) (off n : Nat) (hn : off + n ≤ cs.length) :
    VRL κ ((cs.drop off).take n) ((c.drop (base + off)).take ((cs.drop off).take n).length) := by
  have h1 := (h.drop off).take n
  have e : (((c.drop base).take cs.length).drop off).take n = (c.drop (base + off)).take ((cs.drop off).take n).length := by
    rw [List.drop_take, List.drop_drop, List.take_take, List.length_take, List.length_drop]
  rwa [e] at h1

/-- The field's cells alone. -/
theorem OpV.fieldAddrI {a : AF} {h : AHeap} {o : Oper} {s : TypeId} {x : Operand} {j n : Nat} {fs : Array Field} {f : Field} {cs : List AV} (hop : o.op = .fieldAddr s x j) (hu : P.underlying s = some (.struct fs)) (hf : fs[j]? = some f)
    (hz : P.cellsOf f.type = n) (hz0 : n ≠ 0) (hx : a.ev P x = .ip cs) (hle : f.offset + n ≤ cs.length) : OpV P a h o (.ip ((cs.drop f.offset).take n)) h :=
  OpV.pure fun κ act w ha hh => by
    have hv := ha.ev (P := P) hh x
    rw [hx] at hv
    simp only [VR] at hv
    obtain ⟨blk, base, c, hfz, hv, hb, hr⟩ := hv
    subst hz
    obtain ⟨i, hi, hs⟩ := cellsOf_info hz0
    have hz' : ¬ i.size = 0 := by rw [← hs]; exact hz0
    refine ⟨.pointer (some ⟨blk, base + f.offset, none⟩), ?_, by simp only [VR]; exact ⟨blk, base + f.offset, c, hfz, rfl, by simp; omega, hr.cut hb _ _ hle⟩⟩
    simp [execOp, hop, hv, Instr.fieldAt, run_underlying hu, hf, Instr.sureAddr, fieldPlace, sizeOf, typeInfo, hi, hz', addr_add]

/-- An element of an array that nobody writes. -/
theorem OpV.indexAddrArr {a : AF} {h : AHeap} {o : Oper} {t e : TypeId} {d : TypeDesc} {x y : Operand} {len esz : Nat} {cs : List AV} {k : IntKind} {n : Int} (hop : o.op = .indexAddr t x y) (hu : P.underlying t = some (.array len e)) (he : P.underlying e = some d)
    (hs : P.cellsOf e = esz) (hcl : cs.length = len * esz) (hx : a.ev P x = .ip cs) (hy : a.ev P y = .i k n) (h0 : 0 ≤ n) (h1 : n < len) : OpV P a h o (.ip ((cs.drop (n.toNat * esz)).take esz)) h :=
  OpV.pure fun κ act w ha hh => by
    have hv := ha.ev (P := P) hh x
    have hw := ha.ev (P := P) hh y
    rw [hx] at hv
    rw [hy] at hw
    simp only [VR] at hv hw
    obtain ⟨blk, base, c, hf, hv, hb, hr⟩ := hv
    have hle : n.toNat * esz + esz ≤ cs.length := by
      rw [hcl]
      have : (n.toNat + 1) * esz ≤ len * esz := Nat.mul_le_mul_right _ (by omega)
      rw [Nat.succ_mul] at this; exact this
    refine ⟨.pointer (some ⟨blk, base + n.toNat * esz, none⟩), ?_, by simp only [VR]; exact ⟨blk, _, c, hf, rfl, by simp; omega, hr.cut hb _ _ hle⟩⟩
    simp [execOp, hop, hv, hw, Instr.indexAt, run_underlying hu, Instr.sureAddr, asIntOf, h0, h1, run_sizeOf' he, hs, addr_add]

/-- An element of a slice that nobody writes. -/
theorem OpV.indexAddrIm {a : AF} {h : AHeap} {o : Oper} {t e : TypeId} {d : TypeDesc} {x y : Operand} {len esz : Nat} {cs : List AV} {k : IntKind} {n : Int} (hop : o.op = .indexAddr t x y) (hu : P.underlying t = some (.slice e)) (he : P.underlying e = some d)
    (hs : P.cellsOf e = esz) (hcl : cs.length = len * esz) (hx : a.ev P x = .im cs len) (hy : a.ev P y = .i k n) (h0 : 0 ≤ n) (h1 : n < len) : OpV P a h o (.ip ((cs.drop (n.toNat * esz)).take esz)) h :=
  OpV.pure fun κ act w ha hh => by
    have hv := ha.ev (P := P) hh x
    have hw := ha.ev (P := P) hh y
    rw [hx] at hv
    rw [hy] at hw
    simp only [VR] at hv hw
    rcases hv with ⟨hl0, _⟩ | ⟨blk, base, cap, c, hf, hv, hc1, hc2, hb, hr⟩
    · omega
    · have hle : n.toNat * esz + esz ≤ cs.length := by
        rw [hcl]
        have : (n.toNat + 1) * esz ≤ len * esz := Nat.mul_le_mul_right _ (by omega)
        rw [Nat.succ_mul] at this; exact this
      refine ⟨.pointer (some ⟨blk, base + n.toNat * esz, none⟩), ?_, by simp only [VR]; exact ⟨blk, _, c, hf, rfl, by simp; omega, hr.cut hb _ _ hle⟩⟩
      simp [execOp, hop, hv, hw, Instr.indexAt, run_underlying hu, asIntOf, h0, h1, run_sizeOf' he, hs, addr_add]

theorem OpV.nilCheck {a : AF} {h : AHeap} {o : Oper} {x : Operand} {ad : Nat × Nat} (hop : o.op = .nilCheck x) (hx : a.ev P x = .p (some ad)) : OpV P a h o (.p (some ad)) h :=
  OpV.pure fun κ act w ha hh => by
    have hv := ha.ev (P := P) hh x
    rw [hx] at hv
    have hv' := hv
    simp only [VR] at hv
    obtain ⟨pl, hp, hv⟩ := hv
    exact ⟨act.eval x, by simp [execOp, hop, hv], hv'⟩

theorem OpV.makeInterface {a : AF} {h : AHeap} {o : Oper} {t : TypeId} {x : Operand} {d : TypeDesc} (hop : o.op = .makeInterface t x) (hu : P.underlying t = some d) (hd : ∀ ms, d ≠ .interface ms) : OpV P a h o (.ifc t (a.ev P x)) h :=
  OpV.pure fun κ act w ha hh => by
    refine ⟨.iface t (act.eval x), ?_, by simp only [VR]; exact ⟨_, rfl, ha.ev (P := P) hh x⟩⟩
    cases d <;> simp_all [execOp, Instr.makeInterface, run_underlying hu]

theorem ev_list {a : AF} {κ : Cx} {act : Act} {w : World} {h : AHeap} (ha : AR κ a act) (hh : HR P κ h w) (xs : List Operand) : VRL κ (xs.map (a.ev P)) (xs.map act.eval) :=
  VRL.of_get (by simp) fun j x v h1 h2 => by
    rw [List.getElem?_map] at h1 h2
    cases hx : xs[j]? with
    | none => rw [hx] at h1; simp at h1
    | some y => rw [hx] at h1 h2; simp at h1 h2; subst h1; subst h2; exact ha.ev (P := P) hh y

theorem OpV.makeFunc {a : AF} {h : AHeap} {o : Oper} {f : Fn} {first caps : Array Operand} (hop : o.op = .makeFunc f first caps) : OpV P a h o (.fn f (first.toList.map (a.ev P)) (caps.toList.map (a.ev P))) h :=
  OpV.pure fun κ act w ha hh => by
    refine ⟨.func f (first.map act.eval) (caps.map act.eval), by simp [execOp, hop, Instr.makeFunc], ?_⟩
    simp only [VR]
    exact ⟨first.toList.map act.eval, caps.toList.map act.eval, by simp [← Array.toList_map], ev_list ha hh _, ev_list ha hh _⟩

theorem OpV.extract {a : AF} {h : AHeap} {o : Oper} {x : Operand} {j : Nat} {vs : List AV} {v : AV} (hop : o.op = .extract x j) (hx : a.ev P x = .tu vs) (hj : vs[j]? = some v) : OpV P a h o v h :=
  OpV.pure fun κ act w ha hh => by
    have hv := ha.ev (P := P) hh x
    rw [hx] at hv
    simp only [VR] at hv
    obtain ⟨C, hC, hr⟩ := hv
    obtain ⟨val, h1, h2⟩ := hr.get hj
    exact ⟨val, by simp [execOp, hop, hC, Instr.extract, h1], h2⟩

theorem OpV.fieldAddr {a : AF} {h : AHeap} {o : Oper} {s : TypeId} {x : Operand} {j : Nat} {fs : Array Field} {f : Field} {id off : Nat} (hop : o.op = .fieldAddr s x j) (hu : P.underlying s = some (.struct fs)) (hf : fs[j]? = some f)
    (hz : P.cellsOf f.type ≠ 0) (hx : a.ev P x = .p (some (id, off))) : OpV P a h o (.p (some (id, off + f.offset))) h :=
  OpV.pure fun κ act w ha hh => by
    have hv := ha.ev (P := P) hh x
    rw [hx] at hv
    simp only [VR] at hv
    obtain ⟨pl, hp, hv⟩ := hv
    obtain ⟨i, hi, hs⟩ := cellsOf_info hz
    have hz' : ¬ i.size = 0 := by rw [← hs]; exact hz
    have hadd := addr_add pl.blk off f.offset
    refine ⟨.pointer (some ⟨pl.blk, off + f.offset, none⟩), ?_, by simp only [VR]; exact ⟨pl, hp, rfl⟩⟩
    simp [execOp, hop, hv, Instr.fieldAt, run_underlying hu, hf, Instr.sureAddr, fieldPlace, sizeOf, typeInfo, hi, hz', hadd]

theorem OpV.indexAddrSl {a : AF} {h : AHeap} {o : Oper} {t e : TypeId} {d : TypeDesc} {x y : Operand} {id off len esz : Nat} {tg : Bool} {k : IntKind} {n : Int} (hop : o.op = .indexAddr t x y) (hu : P.underlying t = some (.slice e)) (he : P.underlying e = some d)
    (hs : P.cellsOf e = esz) (hx : a.ev P x = .sl (some (id, off)) len esz tg) (hy : a.ev P y = .i k n) (h0 : 0 ≤ n) (h1 : n < len) : OpV P a h o (.p (some (id, off + n.toNat * esz))) h :=
  OpV.pure fun κ act w ha hh => by
    have hv := ha.ev (P := P) hh x
    have hw := ha.ev (P := P) hh y
    rw [hx] at hv
    rw [hy] at hw
    simp only [VR] at hv hw
    rcases hv with ⟨hl0, _⟩ | ⟨pl, cap, hp, hv, _⟩
    · omega
    · have hadd := addr_add pl.blk off
      refine ⟨.pointer (some ⟨pl.blk, off + n.toNat * esz, none⟩), ?_, by simp only [VR]; exact ⟨pl, hp, rfl⟩⟩
      simp [execOp, hop, hv, hw, Instr.indexAt, run_underlying hu, asIntOf, h0, h1, run_sizeOf' he, hs, hadd]

theorem OpV.indexStr {a : AF} {h : AHeap} {o : Oper} {t : TypeId} {x y : Operand} {s : List UInt8} {k : IntKind} {n : Int} (hop : o.op = .index t x y) (hu : P.underlying t = some .string)
    (hx : a.ev P x = .s s) (hy : a.ev P y = .i k n) (h0 : 0 ≤ n) (h1 : n < s.length) : OpV P a h o (.i .u8 ((s.getD n.toNat 0).toNat)) h :=
  OpV.pure fun κ act w ha hh => by
    have hv := ha.ev (P := P) hh x
    have hw := ha.ev (P := P) hh y
    rw [hx] at hv
    rw [hy] at hw
    simp only [VR] at hv hw
    have hlt : n.toNat < s.length := by omega
    have hsz : n.toNat < (ByteArray.mk s.toArray).size := by simpa [ByteArray.size] using hlt
    have hb : (ByteArray.mk s.toArray)[n.toNat]? = some (s.getD n.toNat 0) := by
      have h3 : (ByteArray.mk s.toArray)[n.toNat]? = some ((ByteArray.mk s.toArray)[n.toNat]'hsz) := getElem?_pos (ByteArray.mk s.toArray) n.toNat hsz
      rw [h3]
      congr 1
      show s.toArray[n.toNat] = _
      simp [List.getD_eq_getElem?_getD, hlt]
    refine ⟨.int .u8 ((s.getD n.toNat 0).toNat), ?_, by simp [VR]⟩
    simp [execOp, hop, hv, hw, Instr.index, run_underlying hu, asIntOf, h0, hb]

theorem OpV.field {a : AF} {h : AHeap} {o : Oper} {t : TypeId} {x : Operand} {j : Nat} {fs : Array Field} {f : Field} {d : TypeDesc} {cs : List AV} {v : AV} (hop : o.op = .field t x j) (hu : P.underlying t = some (.struct fs)) (hf : fs[j]? = some f)
    (hd : P.underlying f.type = some d) (hx : a.ev P x = .ag cs)
    (hv : (if aggD d = true then some (AV.ag ((cs.drop f.offset).take (P.cellsOf f.type))) else cs[f.offset]?) = some v) : OpV P a h o v h :=
  OpV.pure fun κ act w ha hh => by
    have hw := ha.ev (P := P) hh x
    rw [hx] at hw
    simp only [VR] at hw
    obtain ⟨C, hC, hr⟩ := hw
    by_cases hag : aggD d = true
    · rw [if_pos hag] at hv
      cases hv
      refine ⟨.agg ((C.drop f.offset).take (P.cellsOf f.type)).toArray, ?_, by simp only [VR]; exact ⟨_, rfl, (hr.drop _).take _⟩⟩
      simp [execOp, hop, hC, Instr.field, run_underlying hu, hf, asAgg, part, run_isAgg hd, hag, run_sizeOf' hd, List.extract_toArray, List.extract_eq_take_drop]
    · rw [if_neg hag] at hv
      obtain ⟨val, h1, h2⟩ := hr.get hv
      simp only [Bool.not_eq_true] at hag
      exact ⟨val, by simp [execOp, hop, hC, Instr.field, run_underlying hu, hf, asAgg, part, run_isAgg hd, hag, h1], h2⟩

end Go.S2
