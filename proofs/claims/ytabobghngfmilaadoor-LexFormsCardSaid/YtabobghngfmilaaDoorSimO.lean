/- From a contract over the abstract heap to the whole world: a law that is called with nothing of its own in memory. -/
import Derived.Test.YtabobghngfmilaaDoorSimN
import Derived.ProofKit
set_option linter.unusedSimpArgs false
set_option linter.unusedVariables false
namespace Go.Sim

/-- The heap before a law is called: the package's variables, that nobody looks at. -/
def heap0 (P : Program) : AHeap := List.replicate P.globals.size deadObj

theorem heap0_hr (P : Program) (w : World) : HR P ((List.range P.globals.size).map fun g => ⟨g, 0, 0⟩) (heap0 P) w := by
  refine ⟨by simp [heap0], fun g hg => ⟨⟨g, 0, 0⟩, by simp [hg], rfl, rfl⟩, fun id o pl ho hp hd => ?_, fun i j o o' pl pl' h1 h2 h3 h4 h5 => ?_⟩
  · simp only [heap0, List.getElem?_replicate] at ho
    split at ho
    · cases ho; exact absurd rfl hd
    · cases ho
  · simp only [heap0, List.getElem?_replicate] at h1
    split at h1
    · cases h1; cases h5
    · cases h1

theorem heap0_own {P : Program} {ρ : List Pl} {k : Nat} : ¬ Owned ρ (heap0 P) k := by
  rintro ⟨id, o, pl, h1, h2, h3, h4⟩
  simp only [heap0, List.getElem?_replicate] at h1
  split at h1
  · cases h1; cases h3
  · cases h1

/-- Old memory is as it was. -/
def Kept (w w' : World) : Prop := w'.os = w.os ∧ w'.output = w.output ∧ w.heap.size ≤ w'.heap.size ∧ ∀ k, k < w.heap.size → w'.heap[k]? = w.heap[k]?

theorem Fr.kept {P : Program} {ρ ρ' : List Pl} {h' : AHeap} {w w' : World} (f : Fr ρ (heap0 P) w ρ' h' w') : Kept w w' :=
  ⟨f.os, f.output, f.size, fun k hk => f.block k hk heap0_own⟩

theorem Call.law {P : Program} {f : FuncId} {fn : Func} {args : List AV} {vals : List Value} {R : AE → AHeap → Prop} (s : Call P f args R (heap0 P)) (hf : P.funcs[f]? = some fn) (hb : fn.body.isNone = false) (hname : (fn.name == "runtime.NumGoroutine") = false)
    (hv : ∀ ρ, VRL ρ args vals) (w : World) : Calls P f vals.toArray w fun e w' => ∃ r ρ' h', ER ρ' r e ∧ HR P ρ' h' w' ∧ R r h' ∧ Kept w w' := by
  rcases s.sc with ⟨_, s⟩ | s
  · exact (s _ vals.toArray w (by simpa using hv _) (heap0_hr P w)).mono fun e w' ⟨r, ρ', h', h1, h2, h3, h4⟩ => ⟨r, ρ', h', h1, h2, h4, h3.kept⟩
  · exfalso
    obtain ⟨v, val, ρ', h', w', h1, _⟩ := s _ vals.toArray w (by simpa using hv _) (heap0_hr P w)
    rw [run_callFunc_enter hf hname hb] at h1
    cases h1

theorem Kept.but {w w' : World} (k : Kept w w') (may : MemPlace → Prop) : w.keptBut w' may := by
  refine ⟨k.1, k.2.1, fun i hi => ?_⟩
  have h1 := k.2.2.2 i hi
  rw [h1]
  cases h2 : w.heap[i]? with
  | none => simp
  | some o => cases o <;> simp

end Go.Sim
