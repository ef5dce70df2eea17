/- Words for proofs over the abstract heap: what is loaded, what a heap with more objects has, what is forgotten. -/
import Derived.Test.YtabobghngfmilaaDoorSimL
import Derived.Test.YtabobghngfmilaaDoorSimM
import Derived.Test.YtabobghngfmilaaDoorSimJ
set_option linter.unusedSimpArgs false
set_option linter.unusedVariables false
namespace Go.Sim

def AKind.live : AKind → Bool
  | .dead => false
  | _ => true

theorem AKind.ne {k : AKind} (h : k.live = true) : k ≠ .dead := by cases k <;> first | (cases h; done) | exact fun e => by cases e

theorem nle {a b : Nat} (h : Nat.ble a b = true) : a ≤ b := Nat.le_of_ble_eq_true h

def AT.plain : AT → Bool
  | .int _ | .str | .bool | .sl _ | .ptr _ | .ifc | .fn => true
  | _ => false

theorem uStr {E : Env} {t : Nat} {ti : TI} (h : E.ty t = some ti) (hd : ti.d = .str) : E.P.underlying t = some .string := atOf_str (by rw [← (Env.at h).1]; exact hd)
theorem uInt {E : Env} {t : Nat} {ti : TI} {k : IntKind} (h : E.ty t = some ti) (hd : ti.d = .int k) : E.P.underlying t = some (.int k) := atOf_int (by rw [← (Env.at h).1]; exact hd)
theorem uSl {E : Env} {t : Nat} {ti : TI} {e : Nat} (h : E.ty t = some ti) (hd : ti.d = .sl e) : E.P.underlying t = some (.slice e) := atOf_sl (by rw [← (Env.at h).1]; exact hd)

def leafsE (E : Env) : List Field → Nat → List AT → Bool
  | [], _, [] => true
  | f :: fs, j, k :: ks => (f.name != "_") && Nat.beq f.offset j && (match E.ty f.type with | some ti => decide (ti.d = k) | none => false) && k.leaf && leafsE E fs (j + 1) ks
  | _, _, _ => false

theorem leafsE_B {E : Env} : ∀ {fs : List Field} {j : Nat} {ks : List AT}, leafsE E fs j ks = true → leafsB E.P fs j ks = true
  | [], _, [], _ => rfl
  | [], _, _ :: _, h => by simp [leafsE] at h
  | _ :: _, _, [], h => by simp [leafsE] at h
  | f :: fs, j, k :: ks, h => by
    simp only [leafsE, Bool.and_eq_true] at h
    obtain ⟨⟨⟨⟨h1, h2⟩, h3⟩, h4⟩, h5⟩ := h
    have h6 : atOf E.P f.type = k := by
      split at h3
      · rename_i ti hti
        rw [← (Env.at hti).1]; exact of_decide_eq_true h3
      · cases h3
    simp only [leafsB, Bool.and_eq_true]
    exact ⟨⟨⟨⟨h1, h2⟩, decide_eq_true h6⟩, h4⟩, leafsE_B h5⟩

theorem OpV.eqStructE {E : Env} {a : AF} {h : AHeap} {o : Oper} {op : BinOp} {t t' : TypeId} {x y : Operand} {fs : Array Field} {as bs : List AV} {r : Bool} (ks : List AT) (ht : E.P.underlying t = some (.struct fs)) (hst : E.P.stoodInHeld t = false)
    (hg : E.P.eqGuardType E.P.depth t = false) (hl : leafsE E fs.toList 0 ks = true) (hop : o.op = .binOp op t x y t') (hx : a.ev E.P x = .ag as) (hy : a.ev E.P y = .ag bs) (h1 : fitB ks as = true) (h2 : fitB ks bs = true)
    (hr : (op = .eql ∧ r = eqB as bs) ∨ (op = .neq ∧ r = !eqB as bs)) : OpV E.P a h o (.b r) h := by
  have hf : E.P.fieldsOf t = fs := by simp [Program.fieldsOf, ht]
  exact OpV.eqStruct hop (by rw [hf]; exact ht) hst hg (by rw [hf]; exact leafsE_B hl) hx hy h1 h2 hr

theorem ald_leaf {E : Env} {h : AHeap} {t : Nat} {ti : TI} {id off : Nat} {o : AObj} {v : AV} (ht : E.ty t = some ti) (hp : ti.d.plain = true) (ho : h[id]? = some o) (hd : o.st.live = true) (hv : o.cells[off]? = some v) : ald E.P h t id off = some v := by
  have hd := AKind.ne hd
  have h1 := (Env.at ht).1
  unfold ald
  rw [ho]
  simp only [if_neg hd]
  unfold atOf at h1
  split at h1 <;> rename_i hu <;> rw [h1] at hp <;> first | (cases hp; done) | (rw [hu]; exact hv) | skip

theorem ald_struct {E : Env} {h : AHeap} {t : Nat} {ti : TI} {fs : List (Nat × Nat × Bool)} {id off : Nat} {o : AObj} {cs : List AV} (ht : E.ty t = some ti) (hp : ti.d = .st fs) (ho : h[id]? = some o) (hd : o.st.live = true) (hn : Nat.ble (off + ti.size) o.cells.length = true) (hv : (o.cells.drop off).take ti.size = cs) : ald E.P h t id off = some (.ag cs) := by
  have hd := AKind.ne hd
  have h1 := Env.at ht
  unfold ald
  rw [ho]
  simp only [if_neg hd]
  obtain ⟨f, hf, _⟩ := atOf_st (by rw [← h1.1]; exact hp)
  rw [hf, ← h1.2.1]
  simp only
  rw [if_pos (Nat.le_of_ble_eq_true hn), hv]

theorem Loop.cast {P : Program} {c : Code} {Q : AX → AF → AHeap → Prop} {a : AF} {h h' : AHeap} (s : Loop P c Q a h') (e : h = h') : Loop P c Q a h := e ▸ s

theorem hget_l {h l : AHeap} {id : Nat} {o : AObj} (ho : h[id]? = some o) : (h ++ l)[id]? = some o := by
  rw [List.getElem?_append_left (List.getElem?_eq_some_iff.1 ho).1]; exact ho
theorem hget_r (h l : AHeap) (k : Nat) : (h ++ l)[h.length + k]? = l[k]? := by
  rw [List.getElem?_append_right (by omega)]; congr 1; omega
theorem hget_0 (h l : AHeap) : (h ++ l)[h.length]? = l[0]? := hget_r h l 0
theorem hset_l {h l : AHeap} {id : Nat} {x : AObj} (ho : id < h.length) : (h ++ l).set id x = h.set id x ++ l := by
  rw [List.set_append, if_pos ho]
theorem hset_r (h l : AHeap) (k : Nat) (x : AObj) : (h ++ l).set (h.length + k) x = h ++ l.set k x := by
  rw [List.set_append, if_neg (by omega)]; congr 2; omega
theorem hset_0 (h l : AHeap) (x : AObj) : (h ++ l).set h.length x = h ++ l.set 0 x := hset_r h l 0 x
theorem hlt {h : AHeap} {id : Nat} {o : AObj} (ho : h[id]? = some o) : id < h.length := (List.getElem?_eq_some_iff.1 ho).1
theorem hget_set {h : AHeap} {id : Nat} {o x : AObj} (ho : h[id]? = some o) : (h.set id x)[id]? = some x := by
  rw [List.getElem?_set_self (hlt ho)]
theorem hget_ne {h : AHeap} {id j : Nat} {x : AObj} (hne : id ≠ j) : (h.set id x)[j]? = h[j]? := List.getElem?_set_ne hne

/-- The heap K has h ahead. -/
def Pre (h K : AHeap) : Prop := ∃ e, K = h ++ e

theorem Pre.refl (h : AHeap) : Pre h h := ⟨[], by simp⟩
theorem Pre.app {h K : AHeap} (p : Pre h K) (l : AHeap) : Pre h (K ++ l) := by
  obtain ⟨e, rfl⟩ := p; exact ⟨e ++ l, by simp⟩
theorem Pre.set {h K : AHeap} (p : Pre h K) {i : Nat} (hi : h.length ≤ i) (x : AObj) : Pre h (K.set i x) := by
  obtain ⟨e, rfl⟩ := p
  exact ⟨e.set (i - h.length) x, by rw [List.set_append, if_neg (by omega)]⟩
theorem Pre.len {h K : AHeap} (p : Pre h K) : h.length ≤ K.length := by obtain ⟨e, rfl⟩ := p; simp
theorem Pre.get {h K : AHeap} (p : Pre h K) {i : Nat} {o : AObj} (ho : h[i]? = some o) : K[i]? = some o := by obtain ⟨e, rfl⟩ := p; exact hget_l ho
theorem Pre.trans {h K L : AHeap} (p : Pre h K) (q : Pre K L) : Pre h L := by
  obtain ⟨e, rfl⟩ := p; obtain ⟨e', rfl⟩ := q; exact ⟨e ++ e', by simp⟩

/-- The heap h, its object rid become r, then news. -/
def hv (h : AHeap) (rid : Nat) (r : AObj) (news : AHeap) : AHeap := h.set rid r ++ news

section
variable {h : AHeap} {rid : Nat} {r o : AObj} {news : AHeap}
theorem hv_old (hr : h[rid]? = some o) : (hv h rid r news)[rid]? = some r := hget_l (hget_set hr)
theorem hv_new (k : Nat) {x : AObj} (hx : news[k]? = some x) : (hv h rid r news)[h.length + k]? = some x := by
  have := hget_r (h.set rid r) news k
  rw [List.length_set] at this
  exact this.trans hx
theorem hv_other {j : Nat} {x : AObj} (hx : h[j]? = some x) (hne : rid ≠ j) : (hv h rid r news)[j]? = some x := hget_l (by rw [hget_ne hne]; exact hx)
theorem hv_set_old (hr : h[rid]? = some o) (x : AObj) : (hv h rid r news).set rid x = hv h rid x news := by
  unfold hv
  rw [hset_l (by rw [List.length_set]; exact hlt hr), List.set_set]
theorem hv_set_new (k : Nat) (x : AObj) : (hv h rid r news).set (h.length + k) x = hv h rid r (news.set k x) := by
  unfold hv
  have := hset_r (h.set rid r) news k x
  rw [List.length_set] at this
  exact this
theorem hv_set_0 (x : AObj) : (hv h rid r news).set h.length x = hv h rid r (news.set 0 x) := hv_set_new 0 x
theorem hv_app (x : AHeap) : hv h rid r news ++ x = hv h rid r (news ++ x) := by unfold hv; rw [List.append_assoc]
theorem hv_len : (hv h rid r news).length = h.length + news.length := by unfold hv; simp
theorem hset_self (hr : h[rid]? = some r) : h.set rid r = h := by
  refine List.ext_getElem? fun i => ?_
  rw [List.getElem?_set]
  split
  · rename_i e; subst e; rw [hr, if_pos (hlt hr)]
  · rfl
theorem hv_self (hr : h[rid]? = some r) : hv h rid r news = h ++ news := by unfold hv; rw [hset_self hr]
theorem hv_intro (hr : h[rid]? = some r) : h = hv h rid r [] := by unfold hv; rw [hset_self hr, List.append_nil]
end

/-- An object that was there is written, others are made and forgotten. -/
theorem Call.forgetSet {P : Program} {f : FuncId} {args : List AV} {R : AE → Prop} {h : AHeap} {id : Nat} {ob : AObj} (s : Call P f args (fun r h' => (∃ e, h' = h.set id ob ++ e) ∧ underL h.length ob.cells ∧ r.under h.length ∧ R r) h) :
    Call P f args (fun r h' => h' = h.set id ob ∧ R r) h :=
  ⟨s.sc.forget fun r h2 ⟨⟨e, he⟩, hc, hu, hR⟩ => ⟨h.set id ob, e, he, by simp, fun hh i o ho hd => by
    simp only [List.length_set]
    by_cases hi : id = i
    · subst hi
      rw [List.getElem?_set] at ho
      simp only [if_true] at ho
      split at ho
      · cases ho; exact hc
      · cases ho
    · rw [List.getElem?_set_ne hi] at ho; exact hh i o ho hd, by simpa using hu, rfl, hR⟩⟩

theorem Call.keep {P : Program} {f : FuncId} {args : List AV} {R : AE → AHeap → Prop} {R' : AE → AHeap → Prop} {h : AHeap} (s : Call P f args R h)
    (hr : ∀ r h2, R r h2 → ∃ h1 e, h2 = h1 ++ e ∧ h.length ≤ h1.length ∧ ((∀ (id : Nat) o, h[id]? = some o → o.st ≠ .dead → underL h.length o.cells) → ∀ (id : Nat) o, h1[id]? = some o → o.st ≠ .dead → underL h1.length o.cells) ∧ r.under h1.length ∧ R' r h1) : Call P f args R' h :=
  ⟨s.sc.forget hr⟩

end Go.Sim
