/- From a contract over the abstract heap to the whole world: a law that is called with nothing of its own in memory; what was there is not written. -/
import Derived.Test.YtabobghngfmilaaDoorS2U
import Derived.ProofKit
set_option linter.unusedSimpArgs false
set_option linter.unusedVariables false
namespace Go.S2

/-- All memory that is there, as what nobody writes. -/
def Cx.all (w : World) : Cx := ⟨[], fun b => match w.heap[b]? with
  | some (.cells cur _ _) => some cur.toList
  | _ => none⟩

theorem Cx.all_hr {P : Program} {w : World} (hg : GlR P (Cx.all w)) : HR P (Cx.all w) [] w := by
  refine ⟨rfl, fun _ _ _ h => by simp at h, fun _ _ _ _ _ _ h => by simp at h, fun b c h => ?_, fun _ _ _ h => by simp at h, fun _ _ _ h => by simp at h, hg⟩
  simp only [Cx.all] at h
  split at h
  · rename_i cur e z hb; cases h; exact ⟨cur, e, z, hb, rfl⟩
  · cases h

theorem Cx.all_fz {w : World} {b : Nat} {cur : Array Value} {e : TypeId} {z : Nat × Nat} (h : w.heap[b]? = some (.cells cur e z)) : (Cx.all w).fz b = some cur.toList := by
  simp only [Cx.all, h]

/-- Old memory is as it was. -/
def Kept (w w' : World) : Prop := w'.os = w.os ∧ w'.output = w.output ∧ w.heap.size ≤ w'.heap.size ∧ ∀ k, k < w.heap.size → w'.heap[k]? = w.heap[k]?

theorem Fr.kept {κ κ' : Cx} {h' : AHeap} {w w' : World} (f : Fr κ [] w κ' h' w') : Kept w w' :=
  ⟨f.fr.os, f.fr.output, f.fr.size, fun k hk => f.fr.block k hk (by rintro ⟨_, _, _, h, _⟩; simp at h)⟩

theorem Call.law {P : Program} {f : FuncId} {fn : Func} {args : List AV} {vals : List Value} {R : AE → AHeap → Prop} (s : Call P f args R []) (hf : P.funcs[f]? = some fn) (hb : fn.body.isNone = false) (hname : (fn.name == "runtime.NumGoroutine") = false)
    (w : World) (hg : GlR P (Cx.all w)) (hv : VRL (Cx.all w) args vals) : Calls P f vals.toArray w fun e w' => ∃ r κ' h', ER κ' r e ∧ HR P κ' h' w' ∧ R r h' ∧ Kept w w' := by
  rcases s.sc with ⟨_, s⟩ | s
  · exact (s _ vals.toArray w (by simpa using hv) (Cx.all_hr hg)).mono fun e w' ⟨r, κ', h', h1, h2, h3, h4⟩ => ⟨r, κ', h', h1, h2, h4, h3.kept⟩
  · exfalso
    obtain ⟨v, val, κ', h', w', h1, _⟩ := s _ vals.toArray w (by simpa using hv) (Cx.all_hr hg)
    rw [run_callFunc_enter hf hname hb] at h1
    cases h1

theorem Kept.but {w w' : World} (k : Kept w w') (may : MemPlace → Prop) : w.keptBut w' may := by
  refine ⟨k.1, k.2.1, fun i hi => ?_⟩
  have h1 := k.2.2.2 i hi
  rw [h1]
  cases h2 : w.heap[i]? with
  | none => simp
  | some o => cases o <;> simp

end Go.S2
