/- Words for proofs over the abstract heap: what is loaded, what a heap with more objects has, what is forgotten. -/
import Derived.Test.YtabobghngfmilaaDoorS2L
import Derived.Test.YtabobghngfmilaaDoorS2M
import Derived.Test.YtabobghngfmilaaDoorS2L
import Derived.Test.YtabobghngfmilaaDoorS2J
set_option linter.unusedSimpArgs false
set_option linter.unusedVariables false
namespace Go.S2

def AKind.live : AKind → Bool
  | .dead => false
  | _ => true

theorem AKind.ne {k : AKind} (h : k.live = true) : k ≠ .dead := by cases k <;> first | (cases h; done) | exact fun e => by cases e

theorem nle {a b : Nat} (h : Nat.ble a b = true) : a ≤ b := Nat.le_of_ble_eq_true h

def AT.plain : AT → Bool
  | .int _ | .str | .bool | .sl _ | .ptr _ | .ifc | .fn => true
  | _ => false

theorem uStr {E : Env} {t : Nat} {ti : TI} (h : E.ty t = some ti) (hd : ti.d = .str) : E.P.underlying t = some .string := atOf_str (by rw [← (Env.at h).1]; exact hd)
theorem uInt {E : Env} {t : Nat} {ti : TI} {k : IntKind} (h : E.ty t = some ti) (hd : ti.d = .int k) : E.P.underlying t = some (.int k) := atOf_int (by rw [← (Env.at h).1]; exact hd)
theorem uSl {E : Env} {t : Nat} {ti : TI} {e : Nat} (h : E.ty t = some ti) (hd : ti.d = .sl e) : E.P.underlying t = some (.slice e) := atOf_sl (by rw [← (Env.at h).1]; exact hd)

def leafsE (E : Env) : List Field → Nat → List AT → Bool
  | [], _, [] => true
  | f :: fs, j, k :: ks => (f.name != "_") && Nat.beq f.offset j && (match E.ty f.type with | some ti => decide (ti.d = k) | none => false) && k.leaf && leafsE E fs (j + 1) ks
  | _, _, _ => false

theorem leafsE_B {E : Env} : ∀ {fs : List Field} {j : Nat} {ks : List AT}, leafsE E fs j ks = true → leafsB E.P fs j ks = true
  | [], _, [], _ => rfl
  | [], _, _ :: _, h => by simp [leafsE] at h
  | _ :: _, _, [], h => by simp [leafsE] at h
  | f :: fs, j, k :: ks, h => by
    simp only [leafsE, Bool.and_eq_true] at h
    obtain ⟨⟨⟨⟨h1, h2⟩, h3⟩, h4⟩, h5⟩ := h
    have h6 : atOf E.P f.type = k := by
      split at h3
      · rename_i ti hti
        rw [← (Env.at hti).1]; exact of_decide_eq_true h3
      · cases h3
    simp only [leafsB, Bool.and_eq_true]
    exact ⟨⟨⟨⟨h1, h2⟩, decide_eq_true h6⟩, h4⟩, leafsE_B h5⟩

theorem OpV.eqStructE {E : Env} {a : AF} {h : AHeap} {o : Oper} {op : BinOp} {t t' : TypeId} {x y : Operand} {fs : Array Field} {as bs : List AV} {r : Bool} (ks : List AT) (ht : E.P.underlying t = some (.struct fs)) (hst : E.P.stoodInHeld t = false)
    (hg : E.P.eqGuardType E.P.depth t = false) (hl : leafsE E fs.toList 0 ks = true) (hop : o.op = .binOp op t x y t') (hx : a.ev E.P x = .ag as) (hy : a.ev E.P y = .ag bs) (h1 : fitB ks as = true) (h2 : fitB ks bs = true)
    (hr : (op = .eql ∧ r = eqB as bs) ∨ (op = .neq ∧ r = !eqB as bs)) : OpV E.P a h o (.b r) h := by
  have hf : E.P.fieldsOf t = fs := by simp [Program.fieldsOf, ht]
  exact OpV.eqStruct hop (by rw [hf]; exact ht) hst hg (by rw [hf]; exact leafsE_B hl) hx hy h1 h2 hr


end Go.S2
