/- Steps that freeze, and show by content; append of nothing; len. -/
import Derived.Test.YtabobghngfmilaaDoorS2H
set_option linter.unusedSimpArgs false
set_option linter.unusedVariables false
namespace Go.S2
variable {P : Program}

mutual
/-- The objects that a value names as slices. -/
def AV.refs : AV → List Nat
  | .sl (some (i, _)) _ _ _ => [i]
  | .ag cs => refsL cs
  | .tu vs => refsL vs
  | .ifc _ v => v.refs
  | _ => []
def refsL : List AV → List Nat
  | [] => []
  | x :: xs => x.refs ++ refsL xs
end

theorem convL_len (h : AHeap) : ∀ l, (convL h l).length = l.length
  | [] => rfl
  | _ :: xs => by simp [convL, convL_len h xs]

/-- Cells that may hold addresses, shown by content where they can be. -/
def AObj.conv (h : AHeap) (o : AObj) : AObj :=
  match o.st with
  | .rw => ⟨o.ty, convL h o.cells, .rw⟩
  | .vec => o
  | .frz => o
  | .dead => o

theorem AObj.conv_ty (h : AHeap) (o : AObj) : (o.conv h).ty = o.ty := by unfold AObj.conv; split <;> rfl
theorem AObj.conv_st (h : AHeap) (o : AObj) : (o.conv h).st = o.st := by unfold AObj.conv; split <;> simp_all
theorem AObj.conv_len (h : AHeap) (o : AObj) : (o.conv h).cells.length = o.cells.length := by unfold AObj.conv; split <;> simp [convL_len]

def convH (h : AHeap) : AHeap → AHeap
  | [] => []
  | o :: r => o.conv h :: convH h r

theorem convH_map (h : AHeap) : ∀ l, convH h l = l.map (AObj.conv h)
  | [] => rfl
  | _ :: r => by simp [convH, convH_map h r]

theorem HR.conv {κ : Cx} {h : AHeap} {w : World} (hh : HR P κ h w) : HR P κ (convH h h) w := by
  rw [convH_map]
  refine hh.of_like (by simp) fun i o' pl h1 h2 h3 => ?_
  rw [List.getElem?_map] at h1
  cases ho : h[i]? with
  | none => rw [ho] at h1; simp at h1
  | some o =>
    rw [ho] at h1
    simp only [Option.map_some, Option.some.injEq] at h1
    subst h1
    rw [AObj.conv_st] at h3 ⊢
    refine ⟨o, rfl, h3, fun h => h, fun h => h, fun hO => ?_⟩
    obtain ⟨cur, c1, c2, c3, c4⟩ := hO
    refine ⟨cur, by rw [o.conv_ty]; exact c1, c2, by rw [o.conv_len]; exact c3, ?_⟩
    rw [o.conv_len]
    unfold AObj.conv
    cases hst : o.st with
    | rw => rw [hst] at c4; exact VRL.conv hh c4
    | vec => simp only [hst]; rw [hst] at c4; exact c4
    | frz => simp only [hst]; rw [hst] at c4; exact c4
    | dead => exact absurd hst h3

theorem Owned.of_conv {κ : Cx} {h : AHeap} {k : Nat} (ho : Owned κ (convH h h) k) : Owned κ h k := by
  obtain ⟨i, o, pl, h1, h2, h3, h4⟩ := ho
  rw [convH_map, List.getElem?_map] at h1
  cases ho : h[i]? with
  | none => rw [ho] at h1; simp at h1
  | some o =>
    rw [ho] at h1
    simp only [Option.map_some, Option.some.injEq] at h1
    subst h1
    rw [AObj.conv_st] at h3
    exact ⟨i, o, pl, ho, h2, h3, h4⟩

/-- The heap with some objects frozen, and all shown by content that can be. -/
def frzC (h : AHeap) (l : List Nat) : AHeap := convH (frzHL h l) (frzHL h l)

theorem HR.frzC {w : World} {κ : Cx} {h : AHeap} (hh : HR P κ h w) (l : List Nat) : ∃ κ', HR P κ' (S2.frzC h l) w ∧ Fr κ h w κ' (S2.frzC h l) w ∧ ∀ x v, VR κ x v → VR κ' (x.conv (S2.frzHL h l)) v := by
  obtain ⟨κ', h1, h2⟩ := HR.frzHL (l := l) hh
  refine ⟨κ', h1.conv, ⟨h2.le, h2.fr.os, h2.fr.tape, h2.fr.output, h2.fr.size, h2.fr.block, fun k hk => h2.fr.own k hk.of_conv, h2.fr.fzn⟩, fun x v hx => VR.conv h1 (h2.vr hx)⟩

theorem HStep.frz {m : Nat} {h : AHeap} (l : List Nat) : HStep P m h (frzC h l) (AV.conv (frzHL h l)) := by
  refine ⟨fun κ w hm hh => ?_⟩
  obtain ⟨κ', h1, h2, h3⟩ := hh.frzC l
  exact ⟨κ', h1, h2.k hm, h3⟩

section
variable {m : Nat}

theorem SOps.step {ops : Array Oper} {Q : AX → AF → AHeap → Prop} {l : List Oper} {a : AF} {h h' : AHeap} {g : AV → AV} (s : HStep P m h h' g) (k : SOps m P ops Q l (a.map g) h') : SOps m P ops Q l a h := by
  intro κ act w hm ha hh
  obtain ⟨κ1, k1, k2, k3⟩ := s.co κ w hm hh
  exact wpList_mono (fun _ _ _ p => p.trans k2) (k κ1 act w (k2.len hm) (ha.map k3) k1)

theorem SC.frz {f : FuncId} {args : List AV} {R : AE → AHeap → Prop} {h : AHeap} (l : List Nat) (s : SC P f (args.map (AV.conv (frzHL h l))) R (frzC h l)) : SC P f args R h := by
  rcases s with ⟨h1, s⟩ | s
  · refine .inl ⟨h1, fun κ vals w hv hh => ?_⟩
    obtain ⟨κ', k1, k2, k3⟩ := hh.frzC l
    refine (s κ' vals w (hv.map k3) k1).mono ?_
    rintro e w' ⟨r, κ2, h', j1, j2, j3, j4⟩
    exact ⟨r, κ2, h', j1, j2, k2.trans j3, j4⟩
  · refine .inr fun κ vals w hv hh => ?_
    obtain ⟨κ', k1, k2, k3⟩ := hh.frzC l
    obtain ⟨v, val, κ2, h', w', j1, j2, j3, j4, j5⟩ := s κ' vals w (hv.map k3) k1
    exact ⟨v, val, κ2, h', w', j1, j2, j3, k2.trans j4, j5⟩

theorem convL_map (h : AHeap) : ∀ l, convL h l = l.map (AV.conv h)
  | [] => rfl
  | _ :: r => by simp [convL, convL_map h r]

theorem SC.conv {f : FuncId} {args : List AV} {R : AE → AHeap → Prop} {h : AHeap} (s : SC P f (convL h args) R h) : SC P f args R h := by
  rcases s with ⟨h1, s⟩ | s
  · exact .inl ⟨h1, fun κ vals w hv hh => s κ vals w (VRL.conv hh hv) hh⟩
  · exact .inr fun κ vals w hv hh => s κ vals w (VRL.conv hh hv) hh

end
end Go.S2
