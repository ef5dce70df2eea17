/- More operations over the abstract reading: bytes and strings, smallest and greatest, equal structs, functions without a body. -/
import Derived.Test.YtabobghngfmilaaDoorS2I
import Derived.Laws.BytesArg
import Derived.Laws.Externs
import Derived.Laws.StructEq
import Derived.Laws.IdiomStrings
set_option linter.unusedSimpArgs false
set_option linter.unusedVariables false
namespace Go.S2
variable {P : Program}

/-! ### Bytes as a string -/

def byteAV (c : UInt8) : AV := .i .u8 c.toNat

theorem vrl_bytes {κ : Cx} : ∀ {bs : List UInt8} {vals : List Value}, VRL κ (bs.map byteAV) vals → vals = (bs.map fun c => (c.toNat : Int)).map (Value.int .u8)
  | [], _, h => by simp only [List.map_nil, VRL] at h; simp [h]
  | b :: bs, _, h => by
    simp only [List.map_cons, VRL] at h
    obtain ⟨y, ys, rfl, h1, h2⟩ := h
    simp only [byteAV, VR] at h1
    simp [h1, vrl_bytes h2]

theorem OpV.bytesToStr {a : AF} {h : AHeap} {o : Oper} {s t e : TypeId} {x : Operand} {len : Nat} {bs : List UInt8} (hop : o.op = .convert s t x) (hs : P.underlying s = some (.slice e)) (he : P.underlying e = some (.int .u8)) (ht : P.underlying t = some .string)
    (hc : srcCells h 1 (a.ev P x) = some (bs.map byteAV, len)) (hpos : 0 < len) : OpV P a h o (.s bs) h :=
  OpV.pure fun κ act w ha hh => by
    have hv := ha.ev (P := P) hh x
    obtain ⟨b, c, vals, v1, v2, v3, v4⟩ := srcCells_rel hh hc hpos hv
    have hvals := vrl_bytes v2
    have hl : (loadCells b len).run P w = .ok ((bs.map fun c => (c.toNat : Int)).map (Value.int .u8)).toArray w := by
      have := run_loadCells_list (P := P) w b vals v4
      rw [v3] at this
      rw [← hvals]
      simpa using this
    have e1 : (bs.map fun c => (c.toNat : Int)).map (fun n => UInt8.ofNat n.toNat) = bs := by simp [Function.comp_def]
    have hr : (convert s t (.slice (some b) len c)).run P w = .ok (.string ⟨bs.toArray⟩) w := by
      rw [run_convert_bytes_string w s t e (some b) len c hs he ht, run_bytesToString w _ len c _ hl, foldl_push_bytes]
      rw [e1]
      simp [ByteArray.empty, ByteArray.emptyWithCapacity]
      rfl
    exact ⟨.string ⟨bs.toArray⟩, by simp [execOp, hop, v1, hr], by simp [VR]⟩

theorem OpV.strSame {a : AF} {h : AHeap} {o : Oper} {s t : TypeId} {x : Operand} {bs : List UInt8} {d : TypeDesc} (hop : o.op = .convert s t x) (hs : P.underlying s = some d) (ht : P.underlying t = some .string)
    (hx : a.ev P x = .s bs) : OpV P a h o (.s bs) h :=
  OpV.pure fun κ act w ha hh => by
    have hv := ha.ev (P := P) hh x
    rw [hx] at hv
    simp only [VR] at hv
    exact ⟨.string ⟨bs.toArray⟩, by simp [execOp, hop, hv, convert, run_underlying hs, run_underlying ht], by simp [VR]⟩

theorem freeze_alloc (w : World) (C : Array Value) (e : TypeId) (n : Nat) : (w.alloc (.cells C e)).freeze ⟨w.heap.size, n, none⟩ 1 = w.alloc (.cells C e (n, n + 1)) := by
  have hm : ∀ (a : Array Obj) (x : Obj) (f : Obj → Obj), (a.push x).modify a.size f = a.push (f x) := by
    intro a x f
    apply Array.ext
    · simp
    · intro i h1 h2
      simp only [Array.getElem_modify, Array.getElem_push]
      by_cases h : a.size = i
      · subst h
        simp
      · have hi : i < a.size := by simp at h1; omega
        simp [h, hi]
  unfold World.freeze
  rw [if_neg (by decide)]
  show ({ w.alloc (.cells C e) with heap := (w.heap.push (.cells C e)).modify w.heap.size _ } : World) = _
  rw [hm]
  rfl

theorem vrl_of_bytes (κ : Cx) : ∀ (bs : List UInt8), VRL κ (bs.map byteAV) (bs.map fun c => Value.int .u8 c.toNat)
  | [] => by simp [VRL]
  | b :: bs => by
    simp only [List.map_cons, VRL]
    exact ⟨_, _, rfl, by simp [byteAV, VR], vrl_of_bytes κ bs⟩

/-- A new frozen block. -/
theorem HR.newFz {κ : Cx} {h : AHeap} {w w' : World} (hh : HR P κ h w) {C : Array Value} {e : TypeId} {z : Nat × Nat} (hw : w'.heap = w.heap.push (.cells C e z)) (h1 : w'.os = w.os) (h2 : w'.tape = w.tape) (h3 : w'.output = w.output) :
    ∃ κ', HR P κ' h w' ∧ Fr κ h w κ' h w' ∧ κ'.fz w.heap.size = some C.toList := by
  let κ' : Cx := ⟨κ.pl, fun b => if b = w.heap.size then some C.toList else κ.fz b⟩
  have hold : ∀ k, k < w.heap.size → w'.heap[k]? = w.heap[k]? := fun k hk => by rw [hw, Array.getElem?_push, if_neg (Nat.ne_of_lt hk)]
  have hfz : ∀ b c, κ.fz b = some c → κ'.fz b = some c := fun b c hb => by
    simp only [κ']
    rw [if_neg (Nat.ne_of_lt (hh.fz_lt hb))]; exact hb
  have hle : κ.le κ' := ⟨⟨[], by simp [κ']⟩, hfz⟩
  refine ⟨κ', ⟨hh.len, fun i o pl g1 g2 g3 => ?_, hh.excl, fun b c hb => ?_, fun i o pl g1 g2 g3 => ?_, fun i o pl g1 g2 g3 => ?_, hh.gl.of hfz⟩, ⟨hle, h1, h2, h3, by simp [hw], fun k hk _ => hold k hk, fun k hk => .inl hk, fun b c hb => ?_⟩, by simp [κ']⟩
  · have := hh.obj i o pl g1 g2 g3
    exact this.le hle (hold _ this.blk_lt)
  · simp only [κ'] at hb
    split at hb
    · rename_i he; subst he; cases hb
      exact ⟨C, e, z, by rw [hw]; simp, rfl⟩
    · obtain ⟨cur, e', z', k1, k2⟩ := hh.fz b c hb
      exact ⟨cur, e', z', by rw [hold _ (hh.fz_lt hb)]; exact k1, k2⟩
  · have hb := (hh.obj i o pl g1 g2 (AKind.own_live g3)).blk_lt
    simp only [κ']
    rw [if_neg (Nat.ne_of_lt hb)]
    exact hh.nofz i o pl g1 g2 g3
  · obtain ⟨c, hc⟩ := hh.fzo i o pl g1 g2 g3
    exact ⟨c, hfz _ _ hc⟩
  · simp only [κ'] at hb
    split at hb
    · rename_i e; exact .inr (.inr (by omega))
    · exact .inl hb

/-- []byte of a string: new bytes, not to be written. -/
theorem OpV.strToBytes {a : AF} {h : AHeap} {o : Oper} {s t e : TypeId} {x : Operand} {bs : List UInt8} (hop : o.op = .convert s t x) (hs : P.underlying s = some .string) (ht : P.underlying t = some (.slice e)) (he : P.underlying e = some (.int .u8))
    (hx : a.ev P x = .s bs) (hb : bs.length ≤ 9223372036854775807) : OpV P a h o (.im (bs.map byteAV) bs.length) h := by
  intro κ act w ha hh
  have hv := ha.ev (P := P) hh x
  rw [hx] at hv
  simp only [VR] at hv
  have hr := run_bytes_of_string (P := P) w s t e ⟨bs.toArray⟩ hs ht he
  have hsz : (ByteArray.mk bs.toArray).size = bs.length := by simp [ByteArray.size]
  rw [hsz] at hr
  have hge := grownCap_ge w bs.length 0 e
  have hcm : grownCap w bs.length 0 e ≤ maxLen := grownCap_le_maxLen w bs.length 0 e (by rw [maxLen_eq]; exact hb)
  have hrow : bytesRow ⟨bs.toArray⟩ (grownCap w bs.length 0 e) = ((bs.map fun c => Value.int .u8 c.toNat) ++ List.replicate (grownCap w bs.length 0 e - bs.length) (Value.int .u8 0)).toArray := by
    unfold bytesRow
    rw [hsz]
    apply Array.ext'
    simp
  generalize hcap : grownCap w bs.length 0 e = cap at *
  have hlen : (bytesRow ⟨bs.toArray⟩ cap).size = cap := by rw [hrow]; simp; omega
  rw [hlen] at hr
  obtain ⟨κ', k1, k2, k3⟩ := (hh.world (w' := w.drew) rfl).newFz (w' := w.drew.alloc (.cells (bytesRow ⟨bs.toArray⟩ cap) e (cap, cap + 1))) (C := bytesRow ⟨bs.toArray⟩ cap) (e := e) (z := (cap, cap + 1)) rfl rfl rfl rfl
  refine ⟨.value (.slice (some ⟨w.heap.size, 0, none⟩) bs.length cap), _, _, κ', ?_, .inl rfl, ?_, k1, (Fr.drew κ h w).trans k2⟩
  · simp only [execOp, hop, hv, Sem.run_bind, hr, Result.andThen_ok, Sem.run_pure]
  · unfold VR
    refine .inr ⟨w.heap.size, 0, cap, _, k3, rfl, hge, hcm, ?_, ?_⟩
    · rw [hrow]; simp
    · rw [hrow]
      have := vrl_of_bytes ⟨[], κ'.fz⟩ bs
      simpa [List.take_append_of_le_length] using this

/-! ### Structs of numbers, strings and bools: the same? -/

def AT.leaf : AT → Bool
  | .int _ => true
  | .str => true
  | .bool => true
  | _ => false

def leafsB (P : Program) : List Field → Nat → List AT → Bool
  | [], _, [] => true
  | f :: fs, j, k :: ks => (f.name != "_") && Nat.beq f.offset j && decide (atOf P f.type = k) && k.leaf && leafsB P fs (j + 1) ks
  | _, _, _ => false

def fitB : List AT → List AV → Bool
  | [], [] => true
  | .int k :: ks, .i k' _ :: vs => decide (k = k') && fitB ks vs
  | .str :: ks, .s _ :: vs => fitB ks vs
  | .bool :: ks, .b _ :: vs => fitB ks vs
  | _, _ => false

def eqB : List AV → List AV → Bool
  | .i _ x :: r, .i _ y :: s => decide (x = y) && eqB r s
  | .s x :: r, .s y :: s => decide (x = y) && eqB r s
  | .b x :: r, .b y :: s => decide (x = y) && eqB r s
  | [], [] => true
  | _, _ => false

theorem run_part_leaf {f : Field} {k : AT} (hk : atOf P f.type = k) (hl : k.leaf = true) {xs : Array Value} {v : Value} (hv : xs[f.offset]? = some v) (w : World) :
    (part f.type xs f.offset).run P w = .ok v w := by
  obtain ⟨d, hd, hag⟩ : ∃ d, P.underlying f.type = some d ∧ aggD d = false := by
    cases k with
    | int k => exact ⟨_, atOf_int hk, rfl⟩
    | str => exact ⟨_, atOf_str hk, rfl⟩
    | bool => exact ⟨_, atOf_bool hk, rfl⟩
    | _ => cases hl
  simp [part, run_isAgg hd, hag, hv]

theorem run_eqFields {κ : Cx} {d : Nat} {xs ys : Array Value} {w : World} : ∀ {fs : List Field} {j : Nat} {ks : List AT} {as bs : List AV}, leafsB P fs j ks = true → fitB ks as = true → fitB ks bs = true →
    VRL κ as (xs.toList.drop j) → VRL κ bs (ys.toList.drop j) → (Op.eqFields (d + 1) xs ys fs).run P w = .ok (eqB as bs) w
  | [], j, ks, as, bs, hl, ha, hb, _, _ => by
    cases ks with
    | nil =>
      cases as with
      | nil => cases bs with
        | nil => rfl
        | cons => simp [fitB] at hb
      | cons => simp [fitB] at ha
    | cons => simp [leafsB] at hl
  | f :: fs, j, [], as, bs, hl, _, _, _, _ => by simp [leafsB] at hl
  | f :: fs, j, k :: ks, as, bs, hl, ha, hb, va, vb => by
    simp only [leafsB, Bool.and_eq_true, decide_eq_true_eq, bne_iff_ne, ne_eq] at hl
    obtain ⟨⟨⟨⟨hn, hoff⟩, hk⟩, hleaf⟩, hrest⟩ := hl
    have hoff := Nat.eq_of_beq_eq_true hoff
    have step : ∀ {x y : AV} {as' bs' : List AV} {r : Bool}, as = x :: as' → bs = y :: bs' → fitB ks as' = true → fitB ks bs' = true →
        (∀ vx vy, VR κ x vx → VR κ y vy → (Op.equalIn (d + 1) f.type vx vy).run P w = .ok r w) →
        (Op.eqFields (d + 1) xs ys (f :: fs)).run P w = .ok (r && eqB as' bs') w := by
      intro x y as' bs' r e1 e2 f1 f2 he
      subst e1; subst e2
      simp only [VRL] at va vb
      obtain ⟨vx, rx, g1, g2, g3⟩ := va
      obtain ⟨vy, ry, g4, g5, g6⟩ := vb
      have k1 : xs[f.offset]? = some vx := by
        rw [hoff]; have := congrArg (fun l => l[0]?) g1; simpa using this
      have k2 : ys[f.offset]? = some vy := by
        rw [hoff]; have := congrArg (fun l => l[0]?) g4; simpa using this
      have d1 : xs.toList.drop (j + 1) = rx := by rw [← List.tail_drop, g1]; rfl
      have d2 : ys.toList.drop (j + 1) = ry := by rw [← List.tail_drop, g4]; rfl
      have ih := run_eqFields (κ := κ) (d := d) (xs := xs) (ys := ys) (w := w) hrest f1 f2 (by rw [d1]; exact g3) (by rw [d2]; exact g6)
      have hn' : ¬ f.name = "_" := hn
      simp only [Op.eqFields, ne_eq, hn', not_false_eq_true, if_true, Sem.run_bind, run_part_leaf hk hleaf k1, run_part_leaf hk hleaf k2, Result.andThen_ok, he vx vy g2 g5]
      cases r with
      | true => simpa using ih
      | false => simp
    cases k with
    | int k =>
      match as, ha with
      | .i k1 x :: as', ha =>
        match bs, hb with
        | .i k2 y :: bs', hb =>
          simp only [fitB, Bool.and_eq_true, decide_eq_true_eq] at ha hb
          refine step rfl rfl ha.2 hb.2 fun vx vy h1 h2 => ?_
          simp only [VR] at h1 h2
          subst h1; subst h2
          obtain ⟨rfl, _⟩ := ha
          obtain ⟨rfl, _⟩ := hb
          rw [run_equalIn_int w d f.type k k x y (atOf_int hk)]
          congr 1
    | str =>
      match as, ha with
      | .s x :: as', ha =>
        match bs, hb with
        | .s y :: bs', hb =>
          simp only [fitB] at ha hb
          refine step rfl rfl ha hb fun vx vy h1 h2 => ?_
          simp only [VR] at h1 h2
          subst h1; subst h2
          rw [run_equalIn_string w d f.type _ _ (atOf_str hk)]
          congr 1
          rw [Bool.eq_iff_iff]; simp [ByteArray.toList_eq]
    | bool =>
      match as, ha with
      | .b x :: as', ha =>
        match bs, hb with
        | .b y :: bs', hb =>
          simp only [fitB] at ha hb
          refine step rfl rfl ha hb fun vx vy h1 h2 => ?_
          simp only [VR] at h1 h2
          subst h1; subst h2
          rw [run_equalIn_bool' w d f.type _ _ (atOf_bool hk)]
          congr 1
    | _ => cases hleaf

theorem OpV.eqStruct {a : AF} {h : AHeap} {o : Oper} {op : BinOp} {t t' : TypeId} {x y : Operand} {ks : List AT} {as bs : List AV} {r : Bool} (hop : o.op = .binOp op t x y t') (ht : P.underlying t = some (.struct (P.fieldsOf t))) (hst : P.stoodInHeld t = false)
    (hg : P.eqGuardType P.depth t = false) (hl : leafsB P (P.fieldsOf t).toList 0 ks = true) (hx : a.ev P x = .ag as) (hy : a.ev P y = .ag bs) (h1 : fitB ks as = true) (h2 : fitB ks bs = true)
    (hr : (op = .eql ∧ r = eqB as bs) ∨ (op = .neq ∧ r = !eqB as bs)) : OpV P a h o (.b r) h :=
  OpV.pure fun κ act w ha hh => by
    have v1 := ha.ev (P := P) hh x
    have v2 := ha.ev (P := P) hh y
    rw [hx] at v1; rw [hy] at v2
    simp only [VR] at v1 v2
    obtain ⟨C, hC, c1⟩ := v1
    obtain ⟨D, hD, c2⟩ := v2
    have he : (Op.equal t (.agg C.toArray) (.agg D.toArray)).run P w = .ok (eqB as bs) w := by
      obtain ⟨n, hn⟩ : ∃ n, ∀ a b, Op.equal t a b = Op.equalIn (n + 1 + 1) t a b := ⟨9998, fun _ _ => rfl⟩
      rw [hn, run_equalIn_struct w (n + 1) t _ _ ht hst]
      exact run_eqFields hl h1 h2 (by simpa using c1) (by simpa using c2)
    have hgd : ∀ op', (eqGuard op' t x y (act.eval x) (act.eval y)).run P w = .ok () w := by
      intro op'
      rw [hC, hD]
      unfold eqGuard
      cases op' <;> simp [hg]
    rcases hr with ⟨rfl, rfl⟩ | ⟨rfl, rfl⟩
    · exact ⟨.bool (eqB as bs), by simp [execOp, hop, hgd]; simp [hC, hD, binOp, he], by simp [VR]⟩
    · exact ⟨.bool (!eqB as bs), by simp [execOp, hop, hgd]; simp [hC, hD, binOp, he], by simp [VR]⟩

/-! ### A byte's place in a string -/

def idxL (s : List UInt8) (c : UInt8) : Int :=
  match s.findIdx? (· == c) with
  | some i => i
  | none => -1

theorem find_range (p : UInt8 → Bool) : ∀ (l : List UInt8) (f : Nat → UInt8) (k : Nat), (∀ j, j < l.length → l[j]? = some (f (k + j))) → ((List.range' k l.length).find? fun i => p (f i)) = (l.findIdx? p).map (k + ·)
  | [], f, k, _ => by simp
  | x :: l, f, k, h => by
    have h0 : x = f k := by simpa using h 0 (by simp)
    have ih := find_range p l f (k + 1) fun j hj => by
      have := h (j + 1) (by simpa using hj)
      rw [show k + 1 + j = k + (j + 1) by omega]
      simpa using this
    rw [List.length_cons, List.range'_succ, List.find?_cons, ← h0]
    rw [List.findIdx?_cons]
    cases hp : p x with
    | true => simp
    | false =>
      simp only [ih]
      cases l.findIdx? p <;> simp <;> omega

theorem firstIdx_list (s : List UInt8) (c : UInt8) : firstIdx ⟨s.toArray⟩ c = idxL s c := by
  unfold firstIdx idxL
  have hsz : (ByteArray.mk s.toArray).size = s.length := by simp [ByteArray.size]
  have hg : ∀ i, (ByteArray.mk s.toArray)[i]! = s.getD i 0 := by
    intro i
    by_cases hi : i < s.length
    · rw [getElem!_pos (ByteArray.mk s.toArray) i (by rw [hsz]; exact hi)]
      show s.toArray[i] = _
      simp [List.getD_eq_getElem?_getD, hi]
    · rw [getElem!_neg (ByteArray.mk s.toArray) i (by rw [hsz]; exact hi)]
      simp [List.getD_eq_getElem?_getD, hi]; rfl
  simp only [hsz, hg]
  have := find_range (· == c) s (fun i => s.getD i 0) 0 fun j hj => by simp [List.getD_eq_getElem?_getD, hj]
  rw [List.range_eq_range', this]
  cases s.findIdx? (· == c) <;> simp

theorem Call.indexByte {f : FuncId} {fn : Func} (hf : P.funcs[f]? = some fn) (hname : (fn.name == "runtime.NumGoroutine") = false) (hb : fn.body.isNone = true) (hn : Extern.findNext fn = none) (he : Extern.find fn = some Extern.BytealgIndexByte.indexByte)
    (s : List UInt8) (c : UInt8) (h : AHeap) : Call P f [.s s, .i .u8 c.toNat] (fun r h' => h' = h ∧ r = .ret (.i .i64 (idxL s c))) h := by
  refine ⟨.inr fun κ vals w hv hh => ?_⟩
  simp only [VRL, VR] at hv
  obtain ⟨_, _, h1, rfl, _, _, rfl, rfl, rfl⟩ := hv
  have hvals : vals = #[.string ⟨s.toArray⟩, .int .u8 c.toNat] := by rw [← Array.toArray_toList (xs := vals), h1]
  subst hvals
  refine ⟨_, _, κ, h, w, by rw [run_callFunc_extern hf hname hb hn he, run_indexByte_string]; rfl, ?_, hh, Fr.refl _ _ _, rfl, rfl⟩
  simp only [VR]
  rw [firstIdx_list]
  simp

end Go.S2
