/- From the arguments of a law, as the statement reads them, to abstract values; sizes; package variables; what the statement asks behind the call. -/
import Derived.Test.YtabobghngfmilaaDoorS2O
import Derived.Test.YtabobghngfmilaaDoorS2V
import Derived.ChangeArms
import Derived.DataReads
import Derived.SizedLaws
import Derived.ChangeShapes
import Derived.Carry
import Derived.WideShapes
import Derived.OpenShut
set_option linter.unusedSimpArgs false
set_option linter.unusedVariables false
namespace Go.S2

mutual
/-- A datum as cells. -/
def cellsD {H : Type} : DataW H → List AV
  | .lit (.bool b) => [.b b]
  | .lit (.int k n) => [.i k n]
  | .lit (.string s) => [.s s]
  | .nil => [.im [] 0]
  | .slice es _ => [.im (cellsDL es) es.length]
  | .agg ps => cellsDL ps
  | _ => [.undef]
def cellsDL {H : Type} : List (DataW H) → List AV
  | [] => []
  | d :: ds => cellsD d ++ cellsDL ds
end

/-- Which types are read so. -/
def shB (P : Program) : Nat → TypeId → Bool
  | 0, _ => false
  | n + 1, t => match P.underlying t with
    | some .bool | some (.int _) | some .string => P.cellsOf t == 1
    | some (.slice e) => shB P n e && (P.cellsOf t == 1) && decide (0 < P.cellsOf e)
    | some (.struct fs) => fs.toList.all (fun f => shB P n f.type) && laidB P 0 fs.toList && ((fs.toList.map fun f => P.cellsOf f.type).sum == P.cellsOf t)
    | some (.array k e) => shB P n e && (k * P.cellsOf e == P.cellsOf t)
    | _ => false
where laidB (P : Program) : Nat → List Field → Bool
  | _, [] => true
  | o, f :: fs => (f.offset == o) && laidB P (o + P.cellsOf f.type) fs

theorem VRL.mono {w : World} {cs : List AV} {C : List Value} (h : VRL (Cx.all w) cs C) : VRL ⟨[], (Cx.all w).fz⟩ cs C := h

theorem cellsDL_append {H : Type} : ∀ (a b : List (DataW H)), cellsDL (a ++ b) = cellsDL a ++ cellsDL b
  | [], _ => rfl
  | x :: xs, b => by simp [cellsDL, cellsDL_append xs b]

/-- Cells of a row, element by element. -/
theorem cells_rows {H : Type} {w : World} {C : List Value} {sz : Nat} : ∀ (es : List (DataW H)) (off : Nat),
    (∀ i d, es[i]? = some d → (cellsD d).length = sz ∧ VRL (Cx.all w) (cellsD d) ((C.drop (off + i * sz)).take sz)) → VRL (Cx.all w) (cellsDL es) ((C.drop off).take (es.length * sz)) ∧ (cellsDL es).length = es.length * sz
  | [], off, _ => by simp [cellsDL]
  | d :: ds, off, h => by
    obtain ⟨h1, h2⟩ := h 0 d rfl
    obtain ⟨h3, h4⟩ := cells_rows ds (off + sz) (fun i x hx => by
      obtain ⟨g1, g2⟩ := h (i + 1) x (by simpa using hx)
      refine ⟨g1, ?_⟩
      have e : off + (i + 1) * sz = off + sz + i * sz := by rw [Nat.add_mul]; omega
      rwa [e] at g2)
    refine ⟨?_, by simp [cellsDL, h1, h4, Nat.add_mul]; omega⟩
    simp only [cellsDL, List.length_cons]
    have e : (C.drop off).take ((ds.length + 1) * sz) = (C.drop off).take sz ++ ((C.drop (off + sz)).take (ds.length * sz)) := by
      rw [Nat.add_mul, Nat.add_comm, Nat.one_mul, List.take_add, List.drop_drop]
    rw [e]
    refine VRL.append ?_ h3
    simpa using h2

theorem cells_spot {w : World} {base n : Nat} {a : Addr} {cs : List Value} (h : w.cells? base a n = some cs) (hn : 0 < n) : a = ⟨a.block, a.off, none⟩ := by
  obtain ⟨_, hl, hc⟩ := World.cells?_some h
  have h0 := hc 0 hn
  have h5 : cs[0]? = some cs[0] := List.getElem?_eq_getElem (by omega)
  rw [h5] at h0
  simp only [Addr.add, if_true, World.cell?] at h0
  split at h0
  · split at h0
    · cases h0
    · rename_i h1
      cases a with
      | mk b o s => cases s with
        | none => rfl
        | some _ => simp at h1
  · cases h0

theorem cell_lit {w : World} {blk off : Nat} {v : Value} (h : w.cell? ⟨blk, off, none⟩ = some v) : ∃ c e z, w.heap[blk]? = some (.cells c e z) ∧ c[off]? = some v := by
  simp only [World.cell?] at h
  split at h
  · rename_i c e z hb
    exact ⟨c, e, z, hb, by simpa using h⟩
  · cases h

theorem add_lit (blk off i : Nat) : Addr.add ⟨blk, off, none⟩ i = ⟨blk, off + i, none⟩ := by
  simp only [Addr.add]; split
  · subst_vars; rfl
  · rfl

theorem drop_take_of_cells {w : World} {base blk off n : Nat} {cs : List Value} (h : w.cells? base ⟨blk, off, none⟩ n = some cs) (hn : 0 < n) :
    ∃ c, (Cx.all w).fz blk = some c ∧ (c.drop off).take n = cs ∧ off + n ≤ c.length := by
  obtain ⟨_, hl, hc⟩ := World.cells?_some h
  have get : ∀ i, (hi : i < n) → w.cell? ⟨blk, off + i, none⟩ = some (cs[i]'(by omega)) := fun i hi => by
    have := hc i hi
    rw [add_lit] at this
    rw [this]; exact List.getElem?_eq_getElem (by omega)
  obtain ⟨c, e, z, hb, _⟩ := cell_lit (get 0 hn)
  have get' : ∀ i, (hi : i < n) → c[off + i]? = some (cs[i]'(by omega)) := fun i hi => by
    obtain ⟨c', e', z', hb', h1⟩ := cell_lit (get i hi)
    rw [hb] at hb'; cases hb'; exact h1
  refine ⟨c.toList, Cx.all_fz hb, ?_, ?_⟩
  · refine List.ext_getElem? fun i => ?_
    by_cases hi : i < n
    · rw [List.getElem?_take, if_pos hi, List.getElem?_drop, List.getElem?_eq_getElem (l := cs) (by omega), ← get' i hi]
      simp
    · rw [List.getElem?_eq_none (by simp; omega), List.getElem?_eq_none (by omega)]
  · have := (Array.getElem?_eq_some_iff.1 (get' (n - 1) (by omega))).1
    simp; omega

section
variable {H : Type} {enc : TypeId × Value → H} {P : Program} {w : World} {spare : Nat → Bool} {held : Bool}

/-- The fields of a struct, one behind the other. -/
theorem fields_rows {n : Nat} (ih : ∀ {t : TypeId} {cs : List Value} {d : DataW H} {ps : List MemPlace}, shB P n t = true → (∃ fuel, DataW.trod enc P w 0 spare held fuel t cs = some (d, ps)) → VRL (Cx.all w) (cellsD d) cs ∧ (cellsD d).length = P.cellsOf t) :
    ∀ {fs : List Field} {xs : List (DataW H × List MemPlace)} {o : Nat} {cs : List Value} {fuel : Nat}, xs.length = fs.length → fs.all (fun f => shB P n f.type) = true → shB.laidB P o fs = true →
      (∀ (i : Nat) (f : Field), fs[i]? = some f → DataW.trod enc P w 0 spare held fuel f.type ((cs.drop f.offset).take (P.cellsOf f.type)) = xs[i]?) →
      VRL (Cx.all w) (cellsDL (xs.map (·.1))) ((cs.drop o).take ((fs.map fun f => P.cellsOf f.type).sum)) ∧ (cellsDL (xs.map (·.1))).length = (fs.map fun f => P.cellsOf f.type).sum
  | [], xs, o, cs, fuel, hl, _, _, _ => by
    cases xs with
    | nil => simp [cellsDL]
    | cons _ _ => simp at hl
  | f :: fs, [], o, cs, fuel, hl, _, _, _ => by simp at hl
  | f :: fs, x :: xs, o, cs, fuel, hl, ha, hq, h => by
    simp only [List.all_cons, Bool.and_eq_true] at ha
    simp only [shB.laidB, Bool.and_eq_true, beq_iff_eq] at hq
    have h0 := h 0 f rfl
    rw [hq.1] at h0
    obtain ⟨g1, g2⟩ := ih (d := x.1) (ps := x.2) ha.1 ⟨fuel, h0⟩
    obtain ⟨g3, g4⟩ := fields_rows ih (fs := fs) (xs := xs) (o := o + P.cellsOf f.type) (cs := cs) (fuel := fuel) (by simpa using hl) ha.2 hq.2 (fun i f' hf => by simpa using h (i + 1) f' (by simpa using hf))
    simp only [List.map_cons, cellsDL, List.sum_cons, List.length_append]
    refine ⟨?_, by rw [g2, g4]⟩
    rw [List.take_add, List.drop_drop]
    exact VRL.append g1 g3

theorem trod_arr {fuel : Nat} {t e : TypeId} {k : Nat} {cs : List Value} {x : DataW H × List MemPlace} (ht : P.underlying t = some (.array k e)) (h : DataW.trod enc P w 0 spare held fuel t cs = some x) :
    ∃ (xs : List (DataW H × List MemPlace)) (n : Nat), x = (.agg (xs.map (·.1)), xs.flatMap (·.2)) ∧ cs.length = P.cellsOf t ∧ xs.length = k ∧
      ∀ i, i < k → DataW.trod enc P w 0 spare held n e ((cs.drop (i * P.cellsOf e)).take (P.cellsOf e)) = xs[i]? := by
  cases fuel with
  | zero => simp [DataW.trod] at h
  | succ n =>
    unfold DataW.trod at h
    rw [ht] at h
    simp only at h
    split at h
    · rename_i hl
      obtain ⟨xs, h1, h2⟩ := Option.map_eq_some_iff.1 h
      exact ⟨xs, n, h2.symm, hl, by simpa using mapM_some_length h1, fun i hi => mapM_some_get h1 i i (by simp [hi])⟩
    · cases h

theorem trod_cells : ∀ (n : Nat) {t : TypeId} {cs : List Value} {d : DataW H} {ps : List MemPlace}, shB P n t = true → (∃ fuel, DataW.trod enc P w 0 spare held fuel t cs = some (d, ps)) →
    VRL (Cx.all w) (cellsD d) cs ∧ (cellsD d).length = P.cellsOf t
  | 0, _, _, _, _, h, _ => by simp [shB] at h
  | n + 1, t, cs, d, ps, h, ⟨fuel, ht⟩ => by
    simp only [shB] at h
    split at h
    · rename_i hu
      obtain ⟨b, rfl, hx⟩ := DataW.trod_bool hu ht
      cases hx
      simp only [beq_iff_eq] at h
      simp [cellsD, VRL, VR, h]
    · rename_i hu
      obtain ⟨m, rfl, hx, _⟩ := DataW.trod_int hu ht
      cases hx
      simp only [beq_iff_eq] at h
      simp [cellsD, VRL, VR, h]
    · rename_i hu
      obtain ⟨s, rfl, hx, _⟩ := DataW.trod_string hu ht
      cases hx
      simp only [beq_iff_eq] at h
      simp [cellsD, VRL, VR, h]
    · rename_i e hu
      simp only [Bool.and_eq_true, beq_iff_eq, decide_eq_true_eq] at h
      obtain ⟨⟨he, hc⟩, pos⟩ := h
      rcases DataW.trod_slice hu ht with ⟨rfl, hx⟩ | ⟨a, len, cap, elems, rest, m, _, rfl, hx, _, h1, h2, h3, h4, _⟩
      · cases hx
        simp [cellsD, VRL, VR, hc]
      · cases hx
        refine ⟨?_, by simp [cellsD, hc]⟩
        simp only [cellsD, VRL, VR, List.length_map, h3]
        refine ⟨_, [], rfl, ?_, rfl⟩
        rcases Nat.eq_zero_or_pos len with h0 | h0
        · subst h0
          left
          simp at h3
          subst h3
          exact ⟨rfl, by simp [cellsDL], _, _, rfl⟩
        · right
          have one : ∀ i, i < len → ∃ x, elems[i]? = some x ∧ ∃ c, w.cells? 0 (a.add (i * P.cellsOf e)) (P.cellsOf e) = some c ∧ DataW.trod enc P w 0 spare held m e c = some x := fun i hi => by
            have := h4 i hi
            rw [List.getElem?_eq_getElem (by omega)] at this
            obtain ⟨c, g1, g2⟩ := Option.bind_eq_some_iff.1 this
            exact ⟨_, List.getElem?_eq_getElem (by omega), c, g1, g2⟩
          obtain ⟨x0, _, c0, k1, _⟩ := one 0 h0
          have ea := cells_spot k1 pos
          simp only [Nat.zero_mul, Addr.add, if_true] at ea
          generalize a.block = blk at ea
          generalize a.off = off at ea
          subst ea
          obtain ⟨C, f1, _, _⟩ := drop_take_of_cells (by rwa [add_lit] at k1) pos
          have row : ∀ i, i < len → ∃ x, elems[i]? = some x ∧ off + i * P.cellsOf e + P.cellsOf e ≤ C.length ∧ (cellsD x.1).length = P.cellsOf e ∧ VRL (Cx.all w) (cellsD x.1) ((C.drop (off + i * P.cellsOf e)).take (P.cellsOf e)) := fun i hi => by
            obtain ⟨x, q0, c, q1, q2⟩ := one i hi
            rw [add_lit] at q1
            obtain ⟨C', f2, f3, f4⟩ := drop_take_of_cells q1 pos
            rw [f1] at f2; cases f2
            obtain ⟨r1, r2⟩ := trod_cells n (d := x.1) (ps := x.2) he ⟨m, q2⟩
            exact ⟨x, q0, f4, r2, by rw [f3]; exact r1⟩
          obtain ⟨u1, u2⟩ := cells_rows (w := w) (C := C) (sz := P.cellsOf e) (elems.map (·.1)) off (fun i d hd => by
            simp only [List.getElem?_map, Option.map_eq_some_iff] at hd
            obtain ⟨x, hx, rfl⟩ := hd
            have hi : i < len := by have := (List.getElem?_eq_some_iff.1 hx).1; omega
            obtain ⟨x', q0, q1, q2, q3⟩ := row i hi
            rw [hx] at q0; cases q0
            exact ⟨q2, q3⟩)
          refine ⟨blk, off, cap, C, f1, rfl, h1, h2, ?_, ?_⟩
          · obtain ⟨_, _, q1, _⟩ := row (len - 1) (by omega)
            rw [u2]
            simp only [List.length_map, h3]
            have : (len - 1) * P.cellsOf e + P.cellsOf e = len * P.cellsOf e := by rw [← Nat.succ_mul]; congr 1; omega
            omega
          · rw [u2]; exact u1
    · rename_i fs hu
      simp only [Bool.and_eq_true, beq_iff_eq] at h
      obtain ⟨⟨ha, hq⟩, hs⟩ := h
      obtain ⟨xs, m, _, hx, hl, h1, h2⟩ := DataW.trod_struct hu ht
      cases hx
      have := fields_rows (fun {t cs d ps} => trod_cells n) (o := 0) (fs := fs.toList) (by simpa using h1) ha hq (fun i f hf => h2 i f (by simpa using hf))
      simp only [cellsD]
      rw [hs] at this
      simpa [← hl] using this
    · rename_i k e hu
      simp only [Bool.and_eq_true, beq_iff_eq] at h
      obtain ⟨he, hs⟩ := h
      obtain ⟨xs, m, hx, hl, hn, h2⟩ := trod_arr hu ht
      cases hx
      have := cells_rows (w := w) (C := cs) (sz := P.cellsOf e) (xs.map (·.1)) 0 (fun i d hd => by
        simp only [List.getElem?_map, Option.map_eq_some_iff] at hd
        obtain ⟨x, hx, rfl⟩ := hd
        have hi : i < k := by have := (List.getElem?_eq_some_iff.1 hx).1; omega
        have h3 := h2 i hi
        rw [hx] at h3
        obtain ⟨r1, r2⟩ := trod_cells n (d := x.1) (ps := x.2) he ⟨m, h3⟩
        exact ⟨r2, by simpa using r1⟩)
      simp only [cellsD]
      rw [List.length_map, hn, hs] at this
      simpa [← hl] using this
    · cases h
end

/-! ### The package variables -/

theorem laid_get {P : Program} {w : World} : ∀ {l : List (String × DataW Unit)} {ps : List MemPlace}, DataW.LaidVars P w l ps → ∀ {n : String} {d : DataW Unit}, (n, d) ∈ l →
    ∃ g t cs fuel p, P.globalNamed n = some g ∧ (P.globals[g]?).map (·.type) = some t ∧ w.var? P n = some cs ∧ DataW.trod (fun _ => ()) P w 0 (fun _ => true) false fuel t cs.toList = some (d, p)
  | [], _, _, _, _, hm => by simp at hm
  | (n0, d0) :: r, ps, h, n, d, hm => by
    obtain ⟨g, t, cs, fuel, p, q, h1, h2, h3, h4, h5, _⟩ := h
    rcases List.mem_cons.1 hm with hm | hm
    · cases hm
      exact ⟨g, t, cs, fuel, p, h1, h2, h3, h4⟩
    · exact laid_get h5 hm

/-- The one package variable of the table, where it lies. -/
def glB (P : Program) (n : String) : Bool :=
  (List.range P.globals.size).all fun g => match glOf P g with
    | some _ => P.globalNamed n == some g && (match P.globals[g]? with | some x => x.name == n && shB P 9 x.type && (P.cellsOf x.type == 256) | none => false)
    | none => true

theorem glR_laid {P : Program} {W : World} {laid : List (String × DataW Unit)} {d : DataW Unit} (hl : laidMetH P laid W) (hn : (laid.filter fun x => x.2.handleName?.isSome) = [])
    (hm : ("strings.asciiSpace", d) ∈ laid) (hd : cellsD d = (List.range 256).map fun n => AV.i .u8 (spaceN n)) (hb : glB P "strings.asciiSpace" = true) : GlR P (Cx.all W) := by
  intro g cs hg
  simp only [laidMetH, hn] at hl
  obtain ⟨ps, hv, _⟩ := hl
  obtain ⟨g', t, c, fuel, p, h1, h2, h3, h4⟩ := laid_get hv hm
  have hlt : g < P.globals.size := by
    simp only [glOf] at hg
    split at hg
    · rename_i x hx; exact (Array.getElem?_eq_some_iff.1 hx).1
    · cases hg
  have hb' := List.all_eq_true.1 hb g (by simp [hlt])
  rw [hg] at hb'
  simp only [Bool.and_eq_true, beq_iff_eq] at hb'
  obtain ⟨hb1, hb2⟩ := hb'
  split at hb2
  · rename_i x hx
    simp only [Bool.and_eq_true, beq_iff_eq] at hb2
    rw [h1] at hb1; cases hb1
    rw [hx] at h2; cases h2
    obtain ⟨r1, r2⟩ := trod_cells 9 hb2.1.2 ⟨fuel, h4⟩
    have hcs : cs = (List.range 256).map fun n => AV.i .u8 (spaceN n) := by
      simp only [glOf, hx, hb2.1.1, glTab, if_true] at hg
      exact (Option.some.inj hg).symm
    rw [← hcs] at hd
    rw [hd] at r1 r2
    simp only [World.var?, h1, Option.bind_some] at h3
    split at h3
    · rename_i c' e z hb3
      cases h3
      refine ⟨c.toList, Cx.all_fz hb3, by rw [r1.length]; exact Nat.le_refl _, ?_⟩
      rw [List.take_of_length_le (by rw [r1.length]; exact Nat.le_refl _)]
      exact r1
    · cases h3
  · cases hb2

/-! ### What the statement asks behind the call -/

theorem Fr.below {κ κ' : Cx} {h' : AHeap} {w w' : World} (f : Fr κ [] w κ' h' w') : RowKit.Below w.heap.size w w' :=
  ⟨f.fr.os, f.fr.tape, f.fr.output, f.fr.size, fun k hk => f.fr.block k hk (by rintro ⟨_, _, _, h, _⟩; simp at h)⟩

theorem Call.law' {P : Program} {f : FuncId} {fn : Func} {args : List AV} {vals : List Value} {R : AE → AHeap → Prop} (s : Call P f args R []) (hf : P.funcs[f]? = some fn) (hb : fn.body.isNone = false) (hname : (fn.name == "runtime.NumGoroutine") = false)
    (w : World) (hg : GlR P (Cx.all w)) (hv : VRL (Cx.all w) args vals) : Calls P f vals.toArray w fun e w' => ∃ r κ' h', ER κ' r e ∧ R r h' ∧ RowKit.Below w.heap.size w w' := by
  rcases s.sc with ⟨_, s⟩ | s
  · exact (s _ vals.toArray w (by simpa using hv) (Cx.all_hr hg)).mono fun e w' ⟨r, κ', h', h1, h2, h3, h4⟩ => ⟨r, κ', h', h1, h4, h3.below⟩
  · exfalso
    obtain ⟨v, val, κ', h', w', h1, _⟩ := s _ vals.toArray w (by simpa using hv) (Cx.all_hr hg)
    rw [run_callFunc_enter hf hname hb] at h1
    cases h1

/-- A law that answers true. -/
theorem Call.true {P : Program} {f : FuncId} {fn : Func} {args : List AV} {vals : List Value} (s : Call P f args (fun r _ => r = .ret (.b true)) []) (hf : P.funcs[f]? = some fn) (hb : fn.body.isNone = false) (hname : (fn.name == "runtime.NumGoroutine") = false)
    (w : World) (hg : GlR P (Cx.all w)) (hv : VRL (Cx.all w) args vals) : Calls P f vals.toArray w fun e w' => e = .returned (.bool true) ∧ RowKit.Below w.heap.size w w' := by
  refine (Call.law' s hf hb hname w hg hv).mono ?_
  rintro e w' ⟨r, κ', h', h1, rfl, hk⟩
  obtain ⟨y, rfl, hy⟩ := h1
  simp only [VR] at hy
  subst hy
  exact ⟨rfl, hk⟩

section
variable {H : Type} {enc : TypeId × Value → H} {P : Program}

theorem trodAll_below {W W' : World} (hl : laidOutB P = true) (hb : RowKit.Below W.heap.size W W') : ∀ {ts : List TypeId} {vs : List Value} {ds : List (DataW H)} {ps : List MemPlace}, ts.all (fun t => P.readableRec t && decide (t < P.types.size)) = true →
    DataW.TrodAll enc P W 0 (fun _ => true) true ts vs ds ps → (∀ x ∈ ps, x.block < W.heap.size) → DataW.TrodAll enc P W' 0 (fun b => decide (b < W.heap.size)) true ts vs ds ps
  | [], [], [], _, _, h, _ => h
  | [], [], _ :: _, _, _, h, _ => h.elim
  | [], _ :: _, _, _, _, h, _ => by cases ‹List (DataW H)› <;> exact h.elim
  | _ :: _, [], _, _, _, h, _ => by cases ‹List (DataW H)› <;> exact h.elim
  | _ :: _, _ :: _, [], _, _, h, _ => h.elim
  | t :: ts, v :: vs, d :: ds, ps, ha, h, hlt => by
    simp only [List.all_cons, Bool.and_eq_true, decide_eq_true_eq] at ha
    obtain ⟨p, q, h1, h2, rfl⟩ := h
    exact ⟨p, q, RowKit.Below.trod hl ha.1.1 ha.1.2 h1 hb fun x hx => hlt x (by simp [hx]), trodAll_below hl hb (by simpa using ha.2) h2 fun x hx => hlt x (by simp [hx]), rfl⟩

theorem post_true {f : Func} {s : ChangeSpec} {W W' : World} {args : Array Value} {ds : List (DataW H)} {before : List MemPlace} {tb : TypeId}
    (hW : DataW.Whole enc P f.params.toList s.vars false W args.toList ds [] before) (hv : s.vars = []) (hs : s.fn H (ds ++ []) = { results := [.lit (.bool true)], args := ds })
    (hl : laidOutB P = true) (hr : f.params.toList.all (fun t => P.readableRec t && decide (t < P.types.size)) = true) (hrt : f.resultTypes = #[tb]) (htb : P.underlying tb = some .bool)
    (hb : RowKit.Below W.heap.size W W') : s.post enc P f false true false false W args (.bool true) W' := by
  have hlt : ∀ p ∈ before, p.block < W.heap.size := fun p hp => hW.lt p hp
  have hW' := hW
  obtain ⟨p, q, hA, hV, rfl, _, _⟩ := hW'
  rw [hv] at hV
  obtain ⟨_, rfl⟩ := ChangeShapes.trodVars_none hV
  simp only [List.append_nil] at hlt hW
  refine ⟨ds, [], p, [], p, [], hW, ?_, ?_, ?_, ?_, fun h => by cases h⟩
  · rw [hs, hrt]
    exact trodAll_cons_mk (RowKit.shut_bool htb _) ChangeShapes.trodAll_mk0
  · rw [hs]; exact trodAll_below hl hb hr hA hlt
  · rw [hs, hv]; exact rfl
  · exact World.keptBut_mono (fun x hx => ⟨hx, .inr (.inl hx)⟩) (hb.frame _)
end

/-! ### Arguments -/

section
variable {H : Type} {enc : TypeId × Value → H} {P : Program} {w : World} {spare : Nat → Bool} {held : Bool}

theorem trod_vr {t : TypeId} {v : Value} {d : DataW H} {ps : List MemPlace} (h : DataW.Trod enc P w 0 spare held t v d ps) (ht : shB P 9 t = true) (hv : v.cells.toList = [v]) {x : AV} (hd : cellsD d = [x]) : VR (Cx.all w) x v := by
  obtain ⟨r1, _⟩ := trod_cells 9 ht h
  rw [hd, hv] at r1
  simp only [VRL] at r1
  obtain ⟨y, ys, h1, h2, _⟩ := r1
  cases h1; exact h2


theorem vr_one {w : World} {x : AV} {v : Value} (h : VRL (Cx.all w) [x] [v]) : VR (Cx.all w) x v := by
  simp only [VRL] at h
  obtain ⟨y, ys, h1, h2, _⟩ := h
  cases h1; exact h2

theorem arg_int {r : Reach} {b0 : Nat} {t : TypeId} {k : IntKind} {v : Value} {d : DataW H} {ps : List MemPlace} (ht : P.underlying t = some (.int k)) (hval : Value.okWide P w r b0 t v) (hd : DataW.Trod enc P w 0 spare held t v d ps) :
    ∃ n, VR (Cx.all w) (.i k n) v ∧ (Lit.int k n).wf = true := by
  obtain ⟨n, rfl, rfl, rfl, hw⟩ := ChangeShapes.open_int ht hval hd
  exact ⟨n, by simp [VR], hw⟩

theorem arg_str {r : Reach} {b0 : Nat} {t : TypeId} {v : Value} {d : DataW H} {ps : List MemPlace} (ht : P.underlying t = some .string) (hval : Value.okWide P w r b0 t v) (hd : DataW.Trod enc P w 0 spare held t v d ps) :
    ∃ s, VR (Cx.all w) (.s s) v ∧ s.length ≤ maxLen ∧ d = .lit (.string s) := by
  obtain ⟨b, rfl⟩ := WideShapes.okWide_string ht hval
  obtain ⟨fuel, h⟩ := hd
  obtain ⟨s, h1, h2, h3⟩ := DataW.trod_string ht h
  simp [Value.cells] at h1
  subst h1
  cases h2
  exact ⟨_, by simp [VR], by simpa using h3, rfl⟩

theorem ints_cells {e : TypeId} {k : IntKind} (he : P.underlying e = some (.int k)) {m : Nat} : ∀ (elems : List (DataW H × List MemPlace)), (∀ (i : Nat) (x : DataW H × List MemPlace), elems[i]? = some x → ∃ c, DataW.trod enc P w 0 spare held m e c = some x) →
    ∃ xs : List Int, cellsDL (elems.map (·.1)) = xs.map (AV.i k) ∧ xs.length = elems.length ∧ ∀ x ∈ xs, (Lit.int k x).wf = true
  | [], _ => ⟨[], rfl, rfl, by simp⟩
  | x :: r, h => by
    obtain ⟨xs, h1, h2, h3⟩ := ints_cells he r (fun i y hy => h (i + 1) y (by simpa using hy))
    obtain ⟨c, hc⟩ := h 0 x rfl
    obtain ⟨n, _, hx, hw⟩ := DataW.trod_int he hc
    subst hx
    exact ⟨n :: xs, by simp [cellsDL, cellsD, h1], by simp [h2], by simpa using ⟨hw, h3⟩⟩

theorem arg_ints {r : Reach} {b0 : Nat} {t e : TypeId} {k : IntKind} {v : Value} {d : DataW H} {ps : List MemPlace} (ht : P.underlying t = some (.slice e)) (he : P.underlying e = some (.int k)) (hs : shB P 9 t = true)
    (hval : Value.okWide P w r b0 t v) (hd : DataW.Trod enc P w 0 spare held t v d ps) :
    ∃ xs : List Int, VR (Cx.all w) (.im (xs.map (.i k)) xs.length) v ∧ (∀ x ∈ xs, (Lit.int k x).wf = true) ∧ (xs = [] ∨ ∃ es sp, d = .slice es sp ∧ es.length = xs.length) := by
  obtain ⟨a, len, cap, rfl⟩ := WideShapes.okWide_slice ht hval
  obtain ⟨fuel, h⟩ := hd
  obtain ⟨r1, _⟩ := trod_cells 9 hs ⟨fuel, h⟩
  rcases DataW.trod_slice ht h with ⟨h1, hx⟩ | ⟨a', len', cap', elems, rest, m, _, h1, hx, _, _, _, h3, h4, _⟩
  · cases hx
    simp only [Value.cells, cellsD] at r1
    exact ⟨[], vr_one r1, by simp, .inl rfl⟩
  · cases hx
    obtain ⟨xs, g1, g2, g3⟩ := ints_cells (w := w) (enc := enc) (spare := spare) (held := held) he (m := m) elems (fun i x hx => by
      have hi : i < len' := by have := (List.getElem?_eq_some_iff.1 hx).1; omega
      have := h4 i hi
      rw [hx] at this
      obtain ⟨c, _, g2⟩ := Option.bind_eq_some_iff.1 this
      exact ⟨c, g2⟩)
    simp only [Value.cells, cellsD, g1, List.length_map] at r1
    rw [← g2] at r1
    exact ⟨xs, vr_one r1, g3, .inr ⟨_, _, rfl, by simp [g2]⟩⟩

/-- Lengths: what the statement's sizes give. -/
theorem len_str {ts : List TypeId} {ds : List (DataW H)} (h : (DataW.weightsEach P ts ds).all (· ≤ reachBytes) = true) {j : Nat} {t : TypeId} {s : List UInt8} (ht : ts[j]? = some t) (hd : ds[j]? = some (.lit (.string s))) : s.length < 2 ^ 47 :=
  Nat.lt_of_le_of_lt (sized_string h ht hd) reachBytes_lt

theorem len_ints {ts : List TypeId} {ds : List (DataW H)} {d : DataW H} {xs : List Int} (h : (DataW.weightsEach P ts ds).all (· ≤ reachBytes) = true) {j : Nat} {t e : TypeId} (ht : ts[j]? = some t) (hd : ds[j]? = some d)
    (hu : P.underlying t = some (.slice e)) (hx : xs = [] ∨ ∃ es sp, d = .slice es sp ∧ es.length = xs.length) : xs.length * P.bytesOf e < 2 ^ 47 := by
  rcases hx with rfl | ⟨es, sp, rfl, hl⟩
  · simp
  · have := sized_slice h ht hd hu
    rw [← hl]
    have h2 : es.length * P.bytesOf e ≤ (es.length + sp.length) * P.bytesOf e := Nat.mul_le_mul_right _ (by omega)
    have := reachBytes_lt
    omega
end
theorem enc_map {α : Type} (g : α → AV) : ∀ (l : List α), enc (fun x => [g x]) l = l.map g
  | [] => rfl
  | x :: l => by simp [enc, enc_map g l]
end Go.S2
