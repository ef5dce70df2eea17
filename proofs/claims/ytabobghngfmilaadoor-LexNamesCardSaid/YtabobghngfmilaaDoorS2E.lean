/- The operations over the abstract reading, third part: memory that is made, written, appended to. -/
import Derived.Test.YtabobghngfmilaaDoorS2D
set_option linter.unusedSimpArgs false
set_option linter.unusedVariables false
namespace Go.S2
variable {P : Program}

/-- The cells of a value that may lie in memory. -/
def AV.cells : AV → Option (List AV)
  | .undef | .tu _ => none
  | .ag cs => some cs
  | v => some [v]

def AV.one : AV → Bool
  | .undef | .tu _ | .ag _ => false
  | _ => true

theorem VR.one {κ : Cx} {x : AV} {v : Value} (h : VR κ x v) (h1 : x.one = true) : v.oneCell' = true := by
  cases x with
  | undef => simp [AV.one] at h1
  | ag cs => simp [AV.one] at h1
  | tu vs => simp [AV.one] at h1
  | b x => simp only [VR] at h; subst h; rfl
  | i k n => simp only [VR] at h; subst h; rfl
  | s x => simp only [VR] at h; subst h; rfl
  | p a =>
    cases a with
    | none => simp only [VR] at h; subst h; rfl
    | some a => simp only [VR] at h; obtain ⟨_, _, rfl⟩ := h; rfl
  | sl a len esz t => obtain ⟨b, c, rfl⟩ := h.slice_len; rfl
  | ip cs => simp only [VR] at h; obtain ⟨_, _, _, _, rfl, _⟩ := h; rfl
  | im cs len => obtain ⟨b, c, rfl⟩ := h.im_len; rfl
  | fn f a b => simp only [VR] at h; obtain ⟨_, _, rfl, _⟩ := h; rfl
  | nofn => simp only [VR] at h; subst h; rfl
  | ifc t x => simp only [VR] at h; obtain ⟨_, rfl, _⟩ := h; rfl
  | noif => simp only [VR] at h; subst h; rfl

theorem VRL.one {κ : Cx} {xs : List AV} {vs : List Value} (h : VRL κ xs vs) (h1 : xs.all AV.one = true) : ∀ v ∈ vs, v.oneCell' = true := by
  intro v hv
  obtain ⟨j, hj, hjv⟩ := List.getElem_of_mem hv
  have hjx : j < xs.length := by rw [← h.length]; exact hj
  obtain ⟨v', h2, h3⟩ := h.get (List.getElem?_eq_getElem hjx)
  rw [List.getElem?_eq_getElem hj] at h2
  cases h2
  rw [← hjv]
  exact h3.one (List.all_eq_true.1 h1 _ (List.getElem_mem hjx))

theorem VR.cells {κ : Cx} {x : AV} {v : Value} (h : VR κ x v) {cs : List AV} (hc : x.cells = some cs) : VRL κ cs v.cells.toList := by
  have one : ∀ y u, VR κ y u → u.oneCell' = true → VRL κ [y] u.cells.toList := by
    intro y u h1 h2
    have : u.cells.toList = [u] := by cases u <;> first | rfl | cases h2
    rw [this]
    exact .cons h1 .nil
  cases x with
  | undef => simp [AV.cells] at hc
  | tu vs => simp [AV.cells] at hc
  | ag xs =>
    simp only [AV.cells, Option.some.injEq] at hc
    subst hc
    simp only [VR] at h
    obtain ⟨C, rfl, h2⟩ := h
    simpa [Value.cells] using h2
  | _ =>
    simp only [AV.cells, Option.some.injEq] at hc
    subst hc
    exact one _ _ h (h.one rfl)

mutual
/-- nil slices as content. -/
def AV.nilC : AV → AV
  | .sl none l e t => match l with
    | 0 => .im [] 0
    | l + 1 => .sl none (l + 1) e t
  | .ag cs => .ag (nilL cs)
  | .tu cs => .tu (nilL cs)
  | v => v
def nilL : List AV → List AV
  | [] => []
  | x :: xs => x.nilC :: nilL xs
end

mutual
theorem VR.nilC {κ : Cx} : ∀ {x : AV} {v : Value}, VR κ x v → VR κ x.nilC v
  | .undef, _, h => by simpa only [AV.nilC] using h
  | .b _, _, h => by simpa only [AV.nilC] using h
  | .i _ _, _, h => by simpa only [AV.nilC] using h
  | .s _, _, h => by simpa only [AV.nilC] using h
  | .p _, _, h => by simpa only [AV.nilC] using h
  | .ip _, _, h => by simpa only [AV.nilC] using h
  | .im _ _, _, h => by simpa only [AV.nilC] using h
  | .fn _ _ _, _, h => by simpa only [AV.nilC] using h
  | .nofn, _, h => by simpa only [AV.nilC] using h
  | .noif, _, h => by simpa only [AV.nilC] using h
  | .ifc _ _, _, h => by simpa only [AV.nilC] using h
  | .sl (some _) _ _ _, _, h => by simpa only [AV.nilC] using h
  | .sl none 0 _ _, _, h => by
    simp only [VR] at h
    show VR κ (.im [] 0) _
    unfold VR
    exact .inl ⟨rfl, rfl, _, _, h.2⟩
  | .sl none (l + 1) _ _, _, h => by simpa only [AV.nilC] using h
  | .ag cs, _, h => by
    simp only [AV.nilC]
    simp only [VR] at h ⊢
    obtain ⟨C, h1, h2⟩ := h
    exact ⟨C, h1, VRL.nilC h2⟩
  | .tu cs, _, h => by
    simp only [AV.nilC]
    simp only [VR] at h ⊢
    obtain ⟨C, h1, h2⟩ := h
    exact ⟨C, h1, VRL.nilC h2⟩
theorem VRL.nilC {κ : Cx} : ∀ {xs : List AV} {vs : List Value}, VRL κ xs vs → VRL κ (nilL xs) vs
  | [], _, h => by simpa [nilL, VRL] using h
  | _ :: _, _, h => by
    simp only [nilL]
    simp only [VRL] at h ⊢
    obtain ⟨y, ys, h1, h2, h3⟩ := h
    exact ⟨y, ys, h1, VR.nilC h2, VRL.nilC h3⟩
end

def zeroA (P : Program) (t : TypeId) : Option (List AV) :=
  match (P.info? t).bind (·.zero) with
  | some z => some (z.cells.toList.map cV1)
  | none => none

theorem zeroA_rel {t : TypeId} {cs : List AV} (h : zeroA P t = some cs) : ∃ i z, P.info? t = some i ∧ i.zero = some z ∧ ∀ κ, VRL κ cs z.cells.toList := by
  unfold zeroA at h
  cases hi : P.info? t with
  | none => rw [hi] at h; simp at h
  | some i =>
    rw [hi] at h
    simp only [Option.bind_some] at h
    cases hz : i.zero with
    | none => rw [hz] at h; simp at h
    | some z =>
      rw [hz] at h
      simp only [Option.some.injEq] at h
      subst h
      refine ⟨i, z, rfl, hz, fun κ => VRL.of_get (by simp) fun j x v h1 h2 => ?_⟩
      rw [List.getElem?_map, h2] at h1
      simp at h1
      subst h1
      exact cV1_rel κ v

/-- A new variable. -/
theorem OpV.newObj {a : AF} {h : AHeap} {o : Oper} {e : TypeId} {cells : List AV} {k : AKind} (hk : k.own = true) {v : Nat → AV}
    (H : ∀ κ act w, AR κ a act → HR P κ h w → ∃ (val : Value) (vals : List Value), (execOp act.eval o).run P w = .ok (.value val) (w.alloc (.cells vals.toArray e)) ∧ VRL (κ.at k) cells vals ∧
      VR (κ.add ⟨w.heap.size, vals.length⟩) (v h.length) val) : OpV P a h o (v h.length) (h ++ [⟨e, cells, k⟩]) := by
  intro κ act w ha hh
  obtain ⟨val, vals, h1, h2, h3⟩ := H κ act w ha hh
  have hw : (w.alloc (.cells vals.toArray e)).heap = w.heap.push (.cells (vals ++ []).toArray e) := by
    show w.heap.push _ = _
    simp
  have hA := hh.alloc e hk h2 hw
  simp only [List.append_nil] at hA
  exact ⟨_, val, _, _, h1, .inl rfl, h3, hA, Fr.alloc hh.len _ _ rfl _ hw rfl rfl rfl⟩

theorem newPl {κ : Cx} {h : AHeap} (hl : κ.pl.length = h.length) (pl : Pl) : (κ.add pl).pl[h.length]? = some pl := by unfold Cx.add; rw [← hl]; simp

theorem OpV.alloc {a : AF} {h : AHeap} {o : Oper} {e : TypeId} {cells : List AV} (hop : o.op = .alloc e) (hz : zeroA P e = some cells) : OpV P a h o (.p (some (h.length, 0))) (h ++ [⟨e, cells, .rw⟩]) :=
  OpV.newObj (k := .rw) rfl (v := fun n => .p (some (n, 0))) fun κ act w ha hh => by
    obtain ⟨i, z, h1, h2, h3⟩ := zeroA_rel hz
    refine ⟨.pointer (some ⟨w.heap.size, 0, none⟩), z.cells.toList, ?_, h3 κ, by simp only [VR]; exact ⟨_, newPl hh.len _, rfl⟩⟩
    simp [execOp, hop, Instr.alloc, zeroValue, typeInfo, h1, h2, newVar, newRow]

theorem OpV.box {a : AF} {h : AHeap} {o : Oper} {e : TypeId} {x : Operand} {cells : List AV} (hop : o.op = .box e x) (hx : (a.ev P x).cells = some cells) : OpV P a h o (.p (some (h.length, 0))) (h ++ [⟨e, cells, .rw⟩]) :=
  OpV.newObj (k := .rw) rfl (v := fun n => .p (some (n, 0))) fun κ act w ha hh => by
    refine ⟨.pointer (some ⟨w.heap.size, 0, none⟩), (act.eval x).cells.toList, ?_, (ha.ev (P := P) hh x).cells hx, by simp only [VR]; exact ⟨_, newPl hh.len _, rfl⟩⟩
    simp [execOp, hop, Instr.box, newVar, newRow]

/-! ### Values made of parts -/

def splice (cells : List AV) (off : Nat) (cs : List AV) : List AV := cells.take off ++ cs ++ cells.drop (off + cs.length)

def afill (place : Nat → Option (Nat × Nat)) (cells : List AV) : List (Nat × AV) → Option (List AV)
  | [] => some cells
  | (i, v) :: rest =>
    match place i, v.cells with
    | some (off, size), some cs => if cs.length = size ∧ off + cs.length ≤ cells.length then afill place (splice cells off cs) rest else none
    | _, _ => none

theorem foldl_set_list (vs : List Value) (off : Nat) : ∀ (k : Nat) (cells : List Value), off + k + vs.length ≤ cells.length →
    ((vs.zipIdx k).foldl (fun (cs : Array Value) (x : Value × Nat) => cs.setIfInBounds (off + x.2) x.1) cells.toArray) = (cells.take (off + k) ++ vs ++ cells.drop (off + k + vs.length)).toArray := by
  induction vs with
  | nil => intro k cells _; simp
  | cons v vs ih =>
    intro k cells hl
    simp only [List.length_cons] at hl
    simp only [List.zipIdx_cons, List.foldl_cons, List.setIfInBounds_toArray]
    rw [ih (k + 1) (cells.set (off + k) v) (by simp; omega)]
    congr 1
    apply List.ext_getElem?
    intro j
    simp only [List.append_assoc, List.length_cons]
    rcases Nat.lt_trichotomy j (off + k) with h | h | h
    · rw [List.getElem?_append_left (by simp; omega), List.getElem?_append_left (by simp; omega), List.getElem?_take, List.getElem?_take, if_pos (by omega), if_pos h, List.getElem?_set_ne (by omega)]
    · subst h
      rw [List.getElem?_append_left (by simp; omega), List.getElem?_append_right (by simp; omega), List.getElem?_take, if_pos (by omega), List.getElem?_set_self (by omega)]
      simp [List.length_take, Nat.min_eq_left (show off + k ≤ cells.length by omega)]
    · have hA : (cells.take (off + k)).length = off + k := by rw [List.length_take]; omega
      have hB : ((cells.set (off + k) v).take (off + (k + 1))).length = off + (k + 1) := by rw [List.length_take, List.length_set]; omega
      have e1 : ∀ X : List Value, ((cells.set (off + k) v).take (off + (k + 1)) ++ X)[j]? = X[j - (off + (k + 1))]? := fun X => by rw [List.getElem?_append_right (by omega), hB]
      have e2 : ∀ X : List Value, (cells.take (off + k) ++ X)[j]? = X[j - (off + k)]? := fun X => by rw [List.getElem?_append_right (by omega), hA]
      rw [e1, e2]
      rw [show j - (off + k) = (j - (off + (k + 1))) + 1 by omega, List.cons_append, List.getElem?_cons_succ]
      by_cases hj : j - (off + (k + 1)) < vs.length
      · rw [List.getElem?_append_left hj, List.getElem?_append_left hj]
      · have e3 : ∀ X : List Value, (vs ++ X)[j - (off + (k + 1))]? = X[j - (off + (k + 1)) - vs.length]? := fun X => List.getElem?_append_right (by omega)
        rw [e3, e3, List.getElem?_drop, List.getElem?_drop, List.getElem?_set_ne (by omega)]
        congr 1
        omega

theorem afill_rel {place : Nat → Option (Nat × Nat)} {κ : Cx} : ∀ {parts : List (Nat × AV)} {vparts : List (Nat × Value)} {cells cells' : List AV} {vals : List Value}, VRL κ cells vals →
    parts.map (·.1) = vparts.map (·.1) → VRL κ (parts.map (·.2)) (vparts.map (·.2)) → afill place cells parts = some cells' → ∃ vals' : List Value, Instr.fill place vals.toArray vparts = some vals'.toArray ∧ VRL κ cells' vals'
  | [], vp, cells, cells', vals, hv, hp, hr, hf => by
    have : vp = [] := by cases vp with | nil => rfl | cons x xs => simp at hp
    subst this
    simp only [afill, Option.some.injEq] at hf
    subst hf
    exact ⟨vals, by simp [Instr.fill], hv⟩
  | (i, v) :: rest, [], cells, cells', vals, hv, hp, hr, hf => by simp at hp
  | (i, v) :: rest, (i', u) :: vrest, cells, cells', vals, hv, hp, hr, hf => by
    simp only [List.map_cons, List.cons.injEq] at hp
    obtain ⟨rfl, hp⟩ := hp
    simp only [List.map_cons, VRL] at hr
    obtain ⟨y, ys, he, hr1, hr2⟩ := hr
    simp only [List.cons.injEq] at he
    obtain ⟨rfl, rfl⟩ := he
    unfold afill at hf
    cases hpl : place i with
    | none => rw [hpl] at hf; simp at hf
    | some os =>
      obtain ⟨off, size⟩ := os
      cases hc : v.cells with
      | none => rw [hpl, hc] at hf; simp at hf
      | some cs =>
        rw [hpl, hc] at hf
        simp only at hf
        split at hf
        · rename_i hcond
          have hcr := hr1.cells hc
          have hcl := hcr.length
          have hvl := hv.length
          have hs : VRL κ (splice cells off cs) (vals.take off ++ u.cells.toList ++ vals.drop (off + u.cells.toList.length)) := by
            unfold splice
            rw [hcl]
            exact ((hv.take _).append hcr).append (hv.drop _)
          obtain ⟨vals', h1, h2⟩ := afill_rel hs hp hr2 hf
          refine ⟨vals', ?_, h2⟩
          unfold Instr.fill
          simp only [hpl]
          have hsz : u.cells.size = cs.length := by rw [← hcl]; simp
          rw [if_neg (by simp [hsz, hcond.1]; omega)]
          rw [← h1]
          congr 1
          have := foldl_set_list u.cells.toList off 0 vals (by rw [hcl, hvl]; omega)
          simp only [Nat.add_zero] at this
          rw [← this, ← Array.foldl_toList]
          simp
        · cases hf

def fieldPlaces (P : Program) (fs : Array Field) : List (Nat × Nat) := fs.toList.map fun f => (f.offset, P.cellsOf f.type)

theorem fieldPlaces_ok {fs : List Field} (h : ∀ f ∈ fs, (P.info? f.type).isSome = true) : fs.mapM (fun f => (P.info? f.type).map fun i => (f.offset, i.size)) = some (fs.map fun f => (f.offset, P.cellsOf f.type)) := by
  induction fs with
  | nil => rfl
  | cons f fs ih =>
    have h1 := h f (List.mem_cons_self ..)
    obtain ⟨i, hi⟩ := Option.isSome_iff_exists.1 h1
    rw [List.mapM_cons, ih fun g hg => h g (List.mem_cons_of_mem _ hg)]
    simp [hi, Program.cellsOf]

def infosOk (P : Program) (fs : Array Field) : Bool := fs.toList.all fun f => (P.info? f.type).isSome

theorem ev_parts {a : AF} {κ : Cx} {act : Act} {w : World} {h : AHeap} (ha : AR κ a act) (hh : HR P κ h w) (ps : List (Nat × Operand)) :
    (ps.map fun p => (p.1, a.ev P p.2)).map (·.1) = (ps.map fun p => (p.1, act.eval p.2)).map (·.1) ∧ VRL κ ((ps.map fun p => (p.1, a.ev P p.2)).map (·.2)) ((ps.map fun p => (p.1, act.eval p.2)).map (·.2)) := by
  refine ⟨by simp [Function.comp_def], ?_⟩
  have := ev_list (P := P) ha hh (ps.map (·.2))
  simpa [Function.comp_def] using this

theorem OpV.buildStruct {a : AF} {h : AHeap} {o : Oper} {t : TypeId} {fs : Array Field} {parts : Array (Nat × Operand)} {zero cells : List AV} (hop : o.op = .build t parts) (hu : P.underlying t = some (.struct fs)) (hz : zeroA P t = some zero)
    (hi : infosOk P fs = true) (hf : afill ((fieldPlaces P fs)[·]?) zero (parts.toList.map fun p => (p.1, a.ev P p.2)) = some cells) : OpV P a h o (.ag cells) h :=
  OpV.pure fun κ act w ha hh => by
    obtain ⟨i, z, h1, h2, h3⟩ := zeroA_rel hz
    obtain ⟨e1, e2⟩ := ev_parts ha hh parts.toList
    obtain ⟨vals', h4, h5⟩ := afill_rel (h3 κ) e1 e2 hf
    refine ⟨.agg vals'.toArray, ?_, by simp only [VR]; exact ⟨vals', rfl, h5⟩⟩
    have hb : P.built t (parts.toList.map fun p => (p.1, act.eval p.2)) = some vals'.toArray := by
      unfold Program.built
      have hm := fieldPlaces_ok (P := P) (fs := fs.toList) (by
        intro f hf
        exact List.all_eq_true.1 hi f hf)
      simp only [h1, hu, h2, hm]
      rw [← h4]
      simp [fieldPlaces]
    have hr := run_build (P := P) w t (parts.map fun p => (p.1, act.eval p.2)) vals'.toArray (by simpa using hb)
    simp [execOp, hop, hr]

/-- A zero array's, or a struct's, cells tiled n times. -/
def tiled (zero : List AV) : Nat → List AV
  | 0 => []
  | n + 1 => zero ++ tiled zero n

theorem tiled_length (zero : List AV) (n : Nat) : (tiled zero n).length = n * zero.length := by
  induction n with
  | zero => simp [tiled]
  | succ n ih => simp [tiled, ih, Nat.succ_mul, Nat.add_comm]

theorem tiled_get (zero : List AV) (n j : Nat) (h : j < n * zero.length) : (tiled zero n)[j]? = zero[j % zero.length]? := by
  induction n generalizing j with
  | zero => simp at h
  | succ n ih =>
    simp only [tiled]
    by_cases hj : j < zero.length
    · rw [List.getElem?_append_left hj, Nat.mod_eq_of_lt hj]
    · rw [List.getElem?_append_right (by omega), ih (j - zero.length) (by rw [Nat.succ_mul] at h; omega)]
      rw [Nat.mod_eq_sub_mod (by omega : zero.length ≤ j)]

theorem tiled_rel {κ : Cx} {zero : List AV} {z : Array Value} (hz : VRL κ zero z.toList) (n : Nat) (hpos : 0 < zero.length) : VRL κ (tiled zero n) ((Array.range (n * zero.length)).map (z[· % z.size]!)).toList := by
  have hl := hz.length
  have hsz : z.size = zero.length := by simpa using hl
  refine VRL.of_get (by simp [tiled_length]) fun j x v h1 h2 => ?_
  have hj : j < n * zero.length := by
    have := (List.getElem?_eq_some_iff.1 h1).1
    rwa [tiled_length] at this
  rw [tiled_get _ _ _ hj] at h1
  obtain ⟨v', h3, h4⟩ := hz.get h1
  have hm : j % zero.length < z.size := by rw [hsz]; exact Nat.mod_lt _ hpos
  have h3' : z[j % zero.length] = v' := by simpa [Array.getElem?_eq_getElem hm] using h3
  simp [hj, hsz] at h2
  rw [getElem!_pos z _ hm, h3'] at h2
  rw [← h2]; exact h4

theorem OpV.buildSlice {a : AF} {h : AHeap} {o : Oper} {t e : TypeId} {n esz : Nat} {parts : Array (Nat × Operand)} {zero cells : List AV} (hop : o.op = .buildSlice t n parts) (ht : P.underlying t = some (.slice e)) (hz : zeroA P e = some zero)
    (hs : P.cellsOf e = esz) (hl : zero.length = esz) (hpos : 0 < esz) (hb : n * esz ≤ 16777216)
    (hf : afill (fun i => some (i * esz, esz)) (tiled zero n) (parts.toList.map fun p => (p.1, a.ev P p.2)) = some cells) (hcl : cells.length = n * esz) : OpV P a h o (.sl (some (h.length, 0)) n esz false) (h ++ [⟨e, cells, .rw⟩]) :=
  OpV.newObj (k := .rw) rfl (v := fun m => .sl (some (m, 0)) n esz false) fun κ act w ha hh => by
    obtain ⟨i, z, h1, h2, h3⟩ := zeroA_rel hz
    obtain ⟨e1, e2⟩ := ev_parts ha hh parts.toList
    have ht' := tiled_rel (h3 κ) n (by omega)
    rw [hl] at ht'
    obtain ⟨vals', h4, h5⟩ := afill_rel ht' e1 e2 hf
    have hsize : i.size = esz := by rw [← hs, Program.cellsOf, h1]; rfl
    have hvl := h5.length
    have hle : n ≤ maxLen := by
      have : n ≤ n * esz := Nat.le_mul_of_pos_right _ hpos
      unfold maxLen; omega
    refine ⟨.slice (some ⟨w.heap.size, 0, none⟩) n n, vals', ?_, h5, ?_⟩
    · have hb' : ¬ 16777216 < n * esz := by omega
      have h4' : Instr.fill (fun i => some (i * esz, esz)) ((Array.range (n * esz)).map (z.cells[· % z.cells.size]!)) (parts.toList.map fun p => (p.1, act.eval p.2)) = some vals'.toArray := by
        rw [← h4]
      by_cases hn : n * esz = 0
      · rw [hn] at h4'
        simp only [Array.range_zero', Array.map_empty] at h4'
        simp [execOp, hop, Instr.buildSlice, run_underlying ht, sizeOf, typeInfo, h1, hsize, hb', hn, newRow, Array.range_zero', h4']
      · simp [execOp, hop, Instr.buildSlice, run_underlying ht, sizeOf, typeInfo, h1, hsize, hb', hn, zeroValue, h2, newRow, h4']
    · simp only [VR]
      refine .inr ⟨_, n, newPl hh.len _, rfl, Nat.le_refl _, hle, ?_, ?_, ?_⟩ <;> simp [hvl, hcl]

theorem OpV.makeSlice {a : AF} {h : AHeap} {o : Oper} {t e : TypeId} {l c : Operand} {kl kc : IntKind} {n m : Int} {esz : Nat} {zero : List AV} (hop : o.op = .makeSlice t l c) (ht : P.underlying t = some (.slice e)) (hz : zeroA P e = some zero)
    (hs : P.cellsOf e = esz) (hl : zero.length = esz) (hpos : 0 < esz) (hln : a.ev P l = .i kl n) (hcm : a.ev P c = .i kc m) (h0 : 0 ≤ n) (h1 : n ≤ m) (hb : (P.bytesOf e : Int) * m ≤ 281474976710656) (hb2 : m ≤ 9223372036854775807) :
    OpV P a h o (.sl (some (h.length, 0)) n.toNat esz false) (h ++ [⟨e, tiled zero m.toNat, .vec⟩]) :=
  OpV.newObj (k := .vec) rfl (v := fun j => .sl (some (j, 0)) n.toNat esz false) fun κ act w ha hh => by
    obtain ⟨i, z, g1, g2, g3⟩ := zeroA_rel hz
    have v1 := ha.ev (P := P) hh l
    have v2 := ha.ev (P := P) hh c
    rw [hln] at v1
    rw [hcm] at v2
    simp only [VR] at v1 v2
    have hsize : i.size = esz := by rw [← hs, Program.cellsOf, g1]; rfl
    have hby : P.bytesOf e = i.bytes := by rw [Program.bytesOf, g1]; rfl
    have ht' := tiled_rel (g3 κ.bare) m.toNat (by omega)
    rw [hl] at ht'
    rw [hby] at hb
    have hr := run_make (P := P) w t e i z ht g1 g2 kl kc n m h0 h1 hb hb2
    refine ⟨.slice (some ⟨w.heap.size, 0, none⟩) n.toNat m.toNat, _, ?_, ht', ?_⟩
    · rw [← madeCells, Array.toArray_toList, ← hsize]
      simp [execOp, hop, v1, v2, hr]
    · simp only [VR]
      refine .inr ⟨_, m.toNat, newPl hh.len _, rfl, by omega, by unfold maxLen; omega, ?_, ?_, ?_⟩ <;> simp

/-! ### Stores -/

theorem OpV.store {a : AF} {h : AHeap} {o : Oper} {t : TypeId} {d : TypeDesc} {x y : Operand} {id off : Nat} {ob : AObj} {cs0 cs : List AV} (hop : o.op = .store t x y) (ht : P.underlying t = some d) (hx : a.ev P x = .p (some (id, off))) (ho : h[id]? = some ob) (hrw : ob.st.own = true) (hflat : ob.st = .vec → flatL cs = true)
    (hc : (a.ev P y).cells = some cs0) (hcn : cs = cs0 ∨ cs = nilL cs0) (hsz : cs.length = P.cellsOf t) (hone : cs.all AV.one = true) (hle : off + cs.length ≤ ob.cells.length) :
    OpV P a h o (.tu []) (h.set id { ob with cells := splice ob.cells off cs }) := by
  intro κ act w ha hh
  have hv := ha.ev (P := P) hh x
  rw [hx] at hv
  simp only [VR] at hv
  obtain ⟨pl, hp, hv⟩ := hv
  have hy : VRL κ cs (act.eval y).cells.toList := by
    have h1 := (ha.ev (P := P) hh y).cells hc
    rcases hcn with rfl | rfl
    · exact h1
    · exact VRL.nilC h1
  have hy : VRL (κ.at ob.st) cs (act.eval y).cells.toList := by
    cases hst : ob.st with
    | vec => exact VRL.flat (hflat hst) hy
    | frz => rw [hst] at hrw; cases hrw
    | _ => exact hy
  obtain ⟨cur, c1, c2, c3, c4⟩ := hh.obj id ob pl ho hp (AKind.own_live hrw)
  have hyl := hy.length
  have hst := run_storeCells_at P pl.blk off ob.ty (act.eval y).cells.toList 0 cur w c1 (by rw [hyl]; omega) (hy.one hone)
  simp only [Nat.add_zero] at hst
  obtain ⟨i, hi, hsi⟩ := und_info ht
  have hszv : (act.eval y).cells.size = i.size := by rw [← hsi, ← hsz, ← hyl]; simp
  have hrun : (execOp act.eval o).run P w = .ok .skip (w.setRow pl.blk (cur.toList.take off ++ (act.eval y).cells.toList ++ cur.toList.drop (off + (act.eval y).cells.toList.length)).toArray) := by
    have hsv : (storeVar t ⟨pl.blk, off, none⟩ (act.eval y)).run P w = .ok () (w.setRow pl.blk (cur.toList.take off ++ (act.eval y).cells.toList ++ cur.toList.drop (off + (act.eval y).cells.toList.length)).toArray) := by
      rw [← hst]
      simp [storeVar, sizeOf, typeInfo, hi, hszv]
    simp only [execOp, hop, hv, Instr.storeAt, Instr.sureAddr, Sem.run_bind, Sem.run_pure, Result.andThen_ok, hsv]
  have hcl : cur.toList.length = cur.size := by simp
  have hspl : (splice ob.cells off cs).length = ob.cells.length := by
    unfold splice; simp; omega
  refine ⟨_, Go.undef, _, κ, hrun, .inr ⟨rfl, rfl⟩, undef_rel κ, ?_, Fr.set ho hp hrw _⟩
  have hvl : VRL (κ.at ob.st) (splice ob.cells off cs) ((cur.toList.take off ++ (act.eval y).cells.toList ++ cur.toList.drop (off + (act.eval y).cells.toList.length)).take (splice ob.cells off cs).length) := by
    have h1 := (c4.take off).append hy
    have h2 := c4.drop (off + (act.eval y).cells.toList.length)
    have h3 := h1.append h2
    rw [hyl] at h3
    rw [hspl]
    refine VRL.of_get (by simp; omega) fun j xx v g1 g2 => ?_
    have g1' : ((ob.cells.take off ++ cs) ++ ob.cells.drop (off + cs.length))[j]? = some xx := g1
    obtain ⟨v', g3, g4⟩ := h3.get g1'
    have : v' = v := by
      rw [List.getElem?_take] at g2
      split at g2
      · rename_i hj
        rw [hyl] at g2
        have hj' : j < ob.cells.length := hj
        by_cases hj1 : j < off
        · rw [List.getElem?_append_left (by simp; omega), List.getElem?_append_left (by simp; omega), List.getElem?_take, if_pos hj1, List.getElem?_take, if_pos hj'] at g3
          rw [List.getElem?_append_left (by simp; omega), List.getElem?_append_left (by simp; omega), List.getElem?_take, if_pos hj1] at g2
          rw [g3] at g2; exact Option.some.inj g2
        · by_cases hj2 : j < off + cs.length
          · rw [List.getElem?_append_left (by simp; omega), List.getElem?_append_right (by simp; omega)] at g3 g2
            simp only [List.length_take] at g3 g2
            rw [show min off (min ob.cells.length cur.toList.length) = off by omega] at g3
            rw [show min off cur.toList.length = off by omega] at g2
            rw [g3] at g2; exact Option.some.inj g2
          · rw [List.getElem?_append_right (by simp; omega)] at g3 g2
            simp only [List.length_append, List.length_take, hyl] at g3 g2
            rw [show min off (min ob.cells.length cur.toList.length) = off by omega, List.getElem?_drop, List.getElem?_take] at g3
            rw [show min off cur.toList.length = off by omega, List.getElem?_drop] at g2
            split at g3
            · rw [g3] at g2; exact Option.some.inj g2
            · cases g3
      · cases g2
    rw [← this]; exact g4
  exact hh.set ho hp hrw c1 (by simp; omega) (by simp; omega) (by simpa using hvl)

end Go.S2
