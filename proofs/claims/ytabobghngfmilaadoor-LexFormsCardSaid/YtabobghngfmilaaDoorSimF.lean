/- The operations over the abstract reading, fourth part: append; and a call's frame. -/
import Derived.Test.YtabobghngfmilaaDoorSimE
set_option linter.unusedSimpArgs false
set_option linter.unusedVariables false
namespace Go.Sim
variable {P : Program}

theorem addr_add (b o j : Nat) : (⟨b, o, none⟩ : Addr).add j = ⟨b, o + j, none⟩ := by unfold Addr.add; split <;> simp_all

def deadObj : AObj := ⟨0, [], .dead⟩

/-- An object is given up. -/
theorem HR.kill {ρ : List Pl} {h : AHeap} {w : World} (hh : HR P ρ h w) (id : Nat) {od : AObj} (hd : od.st = .dead) : HR P ρ (h.set id od) w := by
  have hget : ∀ (i : Nat) o', (h.set id od)[i]? = some o' → o'.st ≠ .dead → i ≠ id ∧ h[i]? = some o' := by
    intro i o' h1 h2
    by_cases hi : i = id
    · subst hi
      by_cases hl : i < h.length
      · rw [List.getElem?_set_self hl] at h1; cases h1; exact absurd hd h2
      · rw [List.getElem?_eq_none (by simp; omega)] at h1; cases h1
    · rw [List.getElem?_set_ne (Ne.symm hi)] at h1; exact ⟨hi, h1⟩
  refine ⟨by simp [hh.len], hh.glob, fun i o pl h1 h2 h3 => ?_, fun i j o o' pl pl' h1 h2 h3 h4 h5 h6 h7 => ?_⟩
  · exact hh.obj i o pl (hget i o h1 h3).2 h2 h3
  · exact hh.excl i j o o' pl pl' (hget i o h1 (by rw [h5]; exact fun e => by cases e)).2 (hget j o' h2 h6).2 h3 h4 h5 h6 h7

theorem Owned.of_kill {ρ : List Pl} {h : AHeap} {id k : Nat} {od : AObj} (hd : od.st = .dead) (ho : Owned ρ (h.set id od) k) : Owned ρ h k := by
  obtain ⟨i, o, pl, h1, h2, h3, h4⟩ := ho
  by_cases hi : i = id
  · subst hi
    by_cases hl : i < h.length
    · rw [List.getElem?_set_self hl] at h1; cases h1; rw [hd] at h3; cases h3
    · rw [List.getElem?_eq_none (by simp; omega)] at h1; cases h1
  · rw [List.getElem?_set_ne (Ne.symm hi)] at h1; exact ⟨i, o, pl, h1, h2, h3, h4⟩

theorem Fr.kill (ρ : List Pl) (h : AHeap) (w : World) (id : Nat) {od : AObj} (hd : od.st = .dead) : Fr ρ h w ρ (h.set id od) w :=
  ⟨⟨[], by simp⟩, rfl, rfl, rfl, Nat.le_refl _, fun _ _ _ => rfl, fun k hk => .inl (hk.of_kill hd)⟩

theorem Fr.drew (ρ : List Pl) (h : AHeap) (w : World) : Fr ρ h w ρ h w.drew := ⟨⟨[], by simp⟩, rfl, rfl, rfl, Nat.le_refl _, fun _ _ _ => rfl, fun _ h => .inl h⟩

/-- An object under a new number. -/
theorem HR.rename {ρ : List Pl} {h : AHeap} {w : World} (hh : HR P ρ h w) {id : Nat} {o od : AObj} {pl : Pl} (ho : h[id]? = some o) (hp : ρ[id]? = some pl) (hrw : o.st = .rw) (hd : od.st = .dead) :
    HR P (ρ ++ [pl]) (h.set id od ++ [o]) w := by
  have hk := hh.kill id hd
  have hlen := hk.len
  have hget : ∀ (i : Nat) o', (h.set id od ++ [o])[i]? = some o' → (i < (h.set id od).length ∧ (h.set id od)[i]? = some o') ∨ (i = (h.set id od).length ∧ o' = o) := by
    intro i o' h1
    rcases Nat.lt_trichotomy i (h.set id od).length with hlt | rfl | hgt
    · rw [List.getElem?_append_left hlt] at h1; exact .inl ⟨hlt, h1⟩
    · simp at h1; exact .inr ⟨rfl, h1.symm⟩
    · rw [List.getElem?_eq_none (by simp at hgt ⊢; omega)] at h1; cases h1
  have hpl : ∀ (i : Nat) p, i < (h.set id od).length → (ρ ++ [pl])[i]? = some p → ρ[i]? = some p := by
    intro i p hi h2
    rwa [List.getElem?_append_left (by omega)] at h2
  have hpn : ∀ p, (ρ ++ [pl])[(h.set id od).length]? = some p → p = pl := by
    intro p h2
    rw [← hlen] at h2
    simpa using h2.symm
  have hne : ∀ (i : Nat) o', (h.set id od)[i]? = some o' → o'.st ≠ .dead → i ≠ id ∧ h[i]? = some o' := by
    intro i o' h1 h2
    by_cases hi : i = id
    · subst hi
      by_cases hl : i < h.length
      · rw [List.getElem?_set_self hl] at h1; cases h1; exact absurd hd h2
      · rw [List.getElem?_eq_none (by simp; omega)] at h1; cases h1
    · rw [List.getElem?_set_ne (Ne.symm hi)] at h1; exact ⟨hi, h1⟩
  have hod : o.st ≠ .dead := by rw [hrw]; exact fun e => by cases e
  refine ⟨by simp [hh.len], fun g hg => ?_, fun i o' p h1 h2 h3 => ?_, fun i j o1 o2 p1 p2 h1 h2 h3 h4 h5 h6 h7 => ?_⟩
  · obtain ⟨p, h1, h2⟩ := hh.glob g hg
    exact ⟨p, by rw [List.getElem?_append_left (List.getElem?_eq_some_iff.1 h1).1]; exact h1, h2⟩
  · rcases hget i o' h1 with ⟨hlt, h1⟩ | ⟨e1, e2⟩
    · exact (hk.obj i o' p h1 (hpl i p hlt h2) h3).ext rfl
    · subst e1; subst e2
      rw [hpn p h2]
      exact (hh.obj id _ pl ho hp h3).ext rfl
  · rcases hget i o1 h1 with ⟨hlt, g1⟩ | ⟨e1, e2⟩
    · rcases hget j o2 h2 with ⟨hlt', g2⟩ | ⟨e1, e2⟩
      · exact hk.excl i j o1 o2 p1 p2 g1 g2 (hpl i p1 hlt h3) (hpl j p2 hlt' h4) h5 h6 h7
      · subst e1; subst e2
        rw [hpn p2 h4]
        obtain ⟨n1, n2⟩ := hne i o1 g1 (by rw [h5]; exact fun e => by cases e)
        exact hh.excl i id o1 _ p1 pl n2 ho (hpl i p1 hlt h3) hp h5 h6 n1
    · subst e1; subst e2
      rcases hget j o2 h2 with ⟨hlt', g2⟩ | ⟨e1, e2⟩
      · rw [hpn p1 h3]
        obtain ⟨n1, n2⟩ := hne j o2 g2 h6
        exact hh.excl id j _ o2 pl p2 ho n2 hp (hpl j p2 hlt' h4) h5 h6 (Ne.symm n1)
      · exact absurd e1.symm h7

theorem Fr.rename {ρ : List Pl} {h : AHeap} {w : World} (hlen : ρ.length = h.length) {id : Nat} {o od : AObj} {pl : Pl} (ho : h[id]? = some o) (hp : ρ[id]? = some pl) (hrw : o.st = .rw) (hd : od.st = .dead) :
    Fr ρ h w (ρ ++ [pl]) (h.set id od ++ [o]) w := by
  refine ⟨⟨[pl], rfl⟩, rfl, rfl, rfl, Nat.le_refl _, fun _ _ _ => rfl, ?_⟩
  rintro k ⟨i, o', p, h1, h2, h3, h4⟩
  rcases Nat.lt_trichotomy i (h.set id od).length with hlt | rfl | hgt
  · rw [List.getElem?_append_left hlt] at h1
    rw [List.getElem?_append_left (by simpa [hlen] using hlt)] at h2
    exact .inl (Owned.of_kill hd ⟨i, o', p, h1, h2, h3, h4⟩)
  · have : p = pl := by
      rw [List.length_set, ← hlen] at h2
      simpa using h2.symm
    subst this
    exact .inl ⟨id, o, p, ho, hp, hrw, h4⟩
  · rw [List.getElem?_eq_none (by simp at hgt ⊢; omega)] at h1; cases h1

/-- The cells that a slice shows. -/
def srcCells (h : AHeap) (ad : Option (Nat × Nat)) (m esz : Nat) : Option (List AV) :=
  match ad with
  | none => some []
  | some (id, off) =>
    match h[id]? with
    | some o => if o.st = .dead then none else if off + m * esz ≤ o.cells.length then some ((o.cells.drop off).take (m * esz)) else none
    | none => none

theorem srcCells_rel {ρ : List Pl} {h : AHeap} {w : World} (hh : HR P ρ h w) {id off m esz : Nat} {tg : Bool} {news : List AV} {v : Value} (hs : srcCells h (some (id, off)) m esz = some news) (hm : 0 < m) (hv : VR ρ (.sl (some (id, off)) m esz tg) v) :
    ∃ b c vals, v = .slice (some b) m c ∧ VRL ρ news vals ∧ vals.length = m * esz ∧ ∀ (j : Nat) u, vals[j]? = some u → w.cell? (b.add j) = some u := by
  simp only [VR] at hv
  rcases hv with ⟨h0, _⟩ | ⟨pl, cap, hp, hv, _⟩
  · omega
  · simp only [srcCells] at hs
    cases ho : h[id]? with
    | none => rw [ho] at hs; simp at hs
    | some o =>
      rw [ho] at hs
      simp only at hs
      split at hs
      · cases hs
      · rename_i hd
        split at hs
        · rename_i hle
          simp only [Option.some.injEq] at hs
          subst hs
          obtain ⟨vs, h1, h2, h3⟩ := hh.cells ho hp hd off (m * esz) hle
          exact ⟨_, cap, vs, hv, h2, h1, h3⟩
        · cases hs

theorem maxLen_eq : maxLen = 9223372036854775807 := rfl

/-- append(nil, xs...), there is one at least. -/
theorem OpV.appendNil {a : AF} {h : AHeap} {o : Oper} {t e : TypeId} {x y : Operand} {id off m esz esz' : Nat} {tg tg' : Bool} {news zero : List AV} (hop : o.op = .call { callee := .builtin .append, args := #[x, y], argTypes := #[t, t] })
    (ht : P.underlying t = some (.slice e)) (hz : zeroA P e = some zero) (hs : P.cellsOf e = esz) (hl : zero.length = esz) (hx : a.ev P x = .sl none 0 esz' tg) (hy : a.ev P y = .sl (some (id, off)) m esz tg')
    (hn : srcCells h (some (id, off)) m esz = some news) (hm : 0 < m) (hb : m * P.bytesOf e ≤ 140737488355328) (hb2 : m ≤ 9223372036854775807) :
    OpV P a h o (.sl (some (h.length, 0)) m esz false) (h ++ [⟨e, news, .rw⟩]) := by
  intro ρ act w ha hh
  obtain ⟨i, z, g1, g2, g3⟩ := zeroA_rel hz
  have v1 := ha.ev hh x
  have v2 := ha.ev hh y
  rw [hx] at v1
  rw [hy] at v2
  simp only [VR] at v1
  obtain ⟨b, c, vals, e1, e2, e3, e4⟩ := srcCells_rel hh hn hm v2
  have hsize : i.size = esz := by rw [← hs, Program.cellsOf, g1]; rfl
  have hby : P.bytesOf e = i.bytes := by rw [Program.bytesOf, g1]; rfl
  rw [hby] at hb
  have hr := run_append_nil (P := P) w t o.type e i z ht g1 g2 b m c vals (by rw [hsize]; exact e3) e4 hm (by omega) (by omega)
  have hge := grownCap_ge w m 0 e
  have hcm : grownCap w m 0 e ≤ maxLen := grownCap_le_maxLen w m 0 e (by rw [maxLen_eq]; exact hb2)
  have hzl : z.cells.size = esz := by have := (g3 ρ).length; simp at this; omega
  have hspare : ((vals ++ (Builtin.zeroCells z.cells (grownCap w m 0 e - m)).toList).length) = grownCap w m 0 e * esz := by
    simp only [List.length_append, Array.length_toList, size_zeroCells, hzl, e3, ← Nat.add_mul]
    congr 1; omega
  have hw : (w.drew.alloc (.cells (vals.toArray ++ Builtin.zeroCells z.cells (grownCap w m 0 e - m)) e)).heap = w.drew.heap.push (.cells (vals ++ (Builtin.zeroCells z.cells (grownCap w m 0 e - m)).toList).toArray e) := by
    show w.heap.push _ = w.heap.push _
    congr 2
    apply Array.ext'
    simp
  have hA := (hh.world (w' := w.drew) rfl).alloc e e2 hw
  refine ⟨.value (.slice (some ⟨w.heap.size, 0, none⟩) m (grownCap w m 0 e)), _, _, _, ?_, .inl rfl, ?_, hA, (Fr.drew ρ h w).trans (Fr.alloc hh.len _ _ rfl _ hw rfl rfl rfl)⟩
  · simp [execOp, hop, v1.2, e1, resolve, invoke, blt_append, hr]
  · simp only [VR]
    refine .inr ⟨_, grownCap w m 0 e, newPl hh.len _, rfl, hge, hcm, ?_, ?_, ?_⟩
    · simp only [hspare]; omega
    · intro h; cases h
    · intro _; simp only [hspare]; omega

/-- append(nil, nothing...). -/
theorem OpV.appendNilNil {a : AF} {h : AHeap} {o : Oper} {t e : TypeId} {d : TypeDesc} {x y : Operand} {ad : Option (Nat × Nat)} {esz esz' : Nat} {tg tg' : Bool} (hop : o.op = .call { callee := .builtin .append, args := #[x, y], argTypes := #[t, t] })
    (ht : P.underlying t = some (.slice e)) (he : P.underlying e = some d) (hx : a.ev P x = .sl none 0 esz' tg) (hy : a.ev P y = .sl ad 0 esz tg') : OpV P a h o (.sl none 0 esz' tg) h :=
  OpV.pure fun ρ act w ha hh => by
    have v1 := ha.ev hh x
    have v2 := ha.ev hh y
    rw [hx] at v1
    rw [hy] at v2
    have v1' := v1
    simp only [VR] at v1
    obtain ⟨b, c, v2⟩ := v2.slice_len
    refine ⟨.slice none 0 0, ?_, by rw [v1.2] at v1'; exact v1'⟩
    have hr : ∀ ty, (Builtin.append_ #[t, t] ty #[.slice none 0 0, .slice b 0 c]).run P w = .ok (.slice none 0 0) w := fun ty => by
      cases b <;> simp [Builtin.append_, run_underlying ht, run_sizeOf' he, Builtin.lenOf, Builtin.firstCells, loadCells, loadCellsFrom]
    simp [execOp, hop, v1.2, v2, resolve, invoke, blt_append, hr]

/-- append(xs, ys...): xs is given up. -/
theorem OpV.append {a : AF} {h : AHeap} {o : Oper} {t e : TypeId} {x y : Operand} {id1 id off n m esz : Nat} {tg' : Bool} {ob : AObj} {news zero : List AV} (hop : o.op = .call { callee := .builtin .append, args := #[x, y], argTypes := #[t, t] })
    (ht : P.underlying t = some (.slice e)) (hz : zeroA P e = some zero) (hs : P.cellsOf e = esz) (hl : zero.length = esz) (hx : a.ev P x = .sl (some (id1, 0)) n esz false) (ho : h[id1]? = some ob) (hrw : ob.st = .rw) (hty : ob.ty = e)
    (hle : n * esz ≤ ob.cells.length) (hy : a.ev P y = .sl (some (id, off)) m esz tg')
    (hn : srcCells h (some (id, off)) m esz = some news) (hone : news.all AV.one = true) (hm : 0 < m) (hb : (n + m) * P.bytesOf e ≤ 140737488355328) (hb2 : n + m ≤ 9223372036854775807) :
    OpV P a h o (.sl (some (h.length, 0)) (n + m) esz false) (h.set id1 deadObj ++ [⟨e, ob.cells.take (n * esz) ++ news, .rw⟩]) := by
  intro ρ act w ha hh
  obtain ⟨i, z, g1, g2, g3⟩ := zeroA_rel hz
  have v1 := ha.ev hh x
  have v2 := ha.ev hh y
  rw [hx] at v1
  rw [hy] at v2
  simp only [VR] at v1
  obtain ⟨b, c, vals, e1, e2, e3, e4⟩ := srcCells_rel hh hn hm v2
  have hsize : i.size = esz := by rw [← hs, Program.cellsOf, g1]; rfl
  have hby : P.bytesOf e = i.bytes := by rw [Program.bytesOf, g1]; rfl
  rw [hby] at hb
  rcases v1 with ⟨_, hbad, _⟩ | ⟨pl, cap, hp, hv, hc1, hc2, hc3, _, hc5⟩
  · exact absurd rfl hbad
  have hc5 := hc5 trivial
  obtain ⟨cur, e0, fz, c1, c2, c3, c4, c5⟩ := hh.obj id1 ob pl ho hp (by rw [hrw]; exact fun e => by cases e)
  obtain ⟨d1, d2, d3⟩ := c5 hrw
  rw [hty] at d1
  subst d2
  subst d1
  rw [d3] at hv hc5 hc3 c3 c4
  simp only [Nat.zero_add, List.drop_zero, Nat.add_zero] at hv hc5 hc3 c3 c4
  have hvone := e2.one hone
  have holds : VRL ρ (ob.cells.take (n * esz)) (cur.toList.take (n * esz)) := by
    have := c4.take (n * esz)
    rwa [List.take_take, Nat.min_eq_left hle] at this
  by_cases hroom : n + m ≤ cap
  · have hmul : (n + m) * esz ≤ cap * esz := Nat.mul_le_mul_right _ hroom
    have hmul2 : (n + m) * esz = n * esz + m * esz := Nat.add_mul ..
    have hr := run_append_room (P := P) w t o.type _ i ht g1 pl.blk n cap cur c1 b m c vals (by rw [hsize]; exact e3) e4 hvone hroom (by rw [hsize, e3, c2]; omega)
    rw [hsize] at hr
    have hcl : cur.toList.length = cur.size := by simp
    have hset : HR P ρ (h.set id1 { ob with cells := ob.cells.take (n * esz) ++ news }) (w.setRow pl.blk (cur.toList.take (n * esz) ++ vals ++ cur.toList.drop (n * esz + vals.length)).toArray) := by
      have hnl := e2.length
      refine hh.set ho hp hrw c1 (by simp; omega) (by simp; omega) ?_
      simp only [List.append_assoc]
      have hlen1 : (ob.cells.take (n * esz) ++ news).length = (cur.toList.take (n * esz) ++ vals).length := by simp; omega
      rw [hlen1, ← List.append_assoc, List.take_left]
      exact holds.append e2
    have hset' := hset.rename (id := id1) (o := { ob with cells := ob.cells.take (n * esz) ++ news }) (od := deadObj) (List.getElem?_set_self (List.getElem?_eq_some_iff.1 ho).1) hp hrw rfl
    rw [List.set_set] at hset'
    have hobj : ({ ob with cells := ob.cells.take (n * esz) ++ news } : AObj) = ⟨ob.ty, ob.cells.take (n * esz) ++ news, .rw⟩ := by rw [← hrw]
    rw [hobj, hty] at hset'
    have hfr := (Fr.set (w := w) (o' := { ob with cells := ob.cells.take (n * esz) ++ news }) ho hp hrw (cur.toList.take (n * esz) ++ vals ++ cur.toList.drop (n * esz + vals.length)).toArray).trans
      (Fr.rename (w := w.setRow pl.blk (cur.toList.take (n * esz) ++ vals ++ cur.toList.drop (n * esz + vals.length)).toArray) (by simp [hh.len]) (o := { ob with cells := ob.cells.take (n * esz) ++ news }) (od := deadObj) (List.getElem?_set_self (List.getElem?_eq_some_iff.1 ho).1) hp hrw rfl)
    rw [List.set_set, hobj, hty] at hfr
    refine ⟨.value (.slice (some ⟨pl.blk, 0, none⟩) (n + m) cap), _, _, _, ?_, .inl rfl, ?_, hset', hfr⟩
    · simp [execOp, hop, hv, e1, resolve, invoke, blt_append, hr]
    · simp only [VR]
      refine .inr ⟨pl, cap, (by rw [← hh.len]; simp), by rw [d3], hroom, hc2, ?_, ?_, ?_⟩
      · simp only [d3]; omega
      · intro h; cases h
      · intro _; simp only [d3]; omega
  · have holdcells : ∀ (j : Nat) u, (cur.toList.take (n * esz))[j]? = some u → w.cell? ((⟨pl.blk, 0, none⟩ : Addr).add j) = some u := by
      intro j u hu
      rw [addr_add, Nat.zero_add, cell_of_row w _ _ _ _ _ c1]
      rw [List.getElem?_take] at hu
      split at hu
      · simpa using hu
      · cases hu
    have holdlen : (cur.toList.take (n * esz)).length = n * i.size := by rw [holds.length, List.length_take, Nat.min_eq_left hle, hsize]
    have hr := run_append_grow (P := P) w t o.type _ i z ht g1 g2 ⟨pl.blk, 0, none⟩ n cap _ holdlen holdcells b m c vals (by rw [hsize]; exact e3) e4 (by omega) (by omega) (growslice_fits (by omega) hb)
    have hge := grownCap_ge w (n + m) cap ob.ty
    have hcm : grownCap w (n + m) cap ob.ty ≤ maxLen := grownCap_le_maxLen w (n + m) cap ob.ty (by rw [maxLen_eq]; exact hb2)
    subst hty
    have hzl : z.cells.size = esz := by have := (g3 ρ).length; simp at this; omega
    have hnl := e2.length
    have hspare : (((cur.toList.take (n * esz) ++ vals) ++ (Builtin.zeroCells z.cells (grownCap w (n + m) cap ob.ty - (n + m))).toList).length) = grownCap w (n + m) cap ob.ty * esz := by
      have h1 : (cur.toList.take (n * esz)).length = n * esz := by rw [holdlen, hsize]
      simp only [List.length_append, h1, Array.length_toList, size_zeroCells, hzl, e3, ← Nat.add_mul]
      congr 1; omega
    have hw : (w.drew.alloc (.cells ((cur.toList.take (n * esz)).toArray ++ vals.toArray ++ Builtin.zeroCells z.cells (grownCap w (n + m) cap ob.ty - (n + m))) ob.ty)).heap =
        w.drew.heap.push (.cells ((cur.toList.take (n * esz) ++ vals) ++ (Builtin.zeroCells z.cells (grownCap w (n + m) cap ob.ty - (n + m))).toList).toArray ob.ty) := by
      show w.heap.push _ = w.heap.push _
      congr 2
      apply Array.ext'
      simp
    have hk : HR P ρ (h.set id1 deadObj) w.drew := (hh.kill id1 rfl).world rfl
    have hA := hk.alloc ob.ty (holds.append e2) hw
    refine ⟨.value (.slice (some ⟨w.heap.size, 0, none⟩) (n + m) (grownCap w (n + m) cap ob.ty)), _, _, _, ?_, .inl rfl, ?_, hA, ((Fr.kill ρ h w id1 rfl).trans (Fr.drew ρ _ w)).trans (Fr.alloc hk.len _ _ rfl _ hw rfl rfl rfl)⟩
    · simp [execOp, hop, hv, e1, resolve, invoke, blt_append, hr]
    · simp only [VR]
      refine .inr ⟨_, grownCap w (n + m) cap ob.ty, newPl hh.len _, rfl, hge, hcm, ?_, ?_, ?_⟩
      · simp only [hspare]; omega
      · intro h; cases h
      · intro _; simp only [hspare]; omega

end Go.Sim
