/- LexNames holds for every input: the tied card, under the card's own conditions. The frame began as the print of proof-skeleton.mjs. -/
import Derived.Test.YtabobghngfmilaaDoorRows
import Derived.Test.YtabobghngfmilaaDoorTie
import Derived.Test.YtabobghngfmilaaDoorCards
import Derived.Test.YtabobghngfmilaaDoorLx8
import Derived.Test.YtabobghngfmilaaDoorS2W
import Derived.SevenTiedAt
import Derived.LaidMore
import Derived.Lay
import Derived.Stop.Joined
import Derived.WalkKit
import Derived.ProofKit
import Derived.OpenShut
namespace Go.Proofs.YtabobghngfmilaaDoor.lexNames
open Go.ChangeShapes Go.WideShapes Go.ChangeAt Go.RowKit
set_option linter.unusedVariables false

theorem own : ownKnob Tryd.prog.godebug = none := by kernel_rfl

open Go.S2 Go.S2.Tryd in
theorem told (W : World) (hlaid : laidMetH Tryd.prog Rows.lexNamesRow.laid W) : GlR Tryd.prog (Cx.all W) :=
  glR_laid hlaid (by kernel_rfl) (show ("strings.asciiSpace", Rows.laid_strings_asciiSpace) ∈ _ by simp [Rows.lexNamesRow]) (by kernel_rfl) (by kernel_rfl)

set_option maxRecDepth 100000 in
open Go.S2 Go.S2.Tryd in
theorem lifted (os : Os) (started : os.Started) (H : Type) (enc : TypeId × Value → H) :
    ReturnsInHanded {} Tryd.checked os 4 .any (fun w args => (Rows.lexNamesSpec.pre enc Tryd.prog Tryd.f4 Rows.lexNamesRow.domain false w args ∧ laidMetH Tryd.prog Rows.lexNamesRow.laid w) ∧ sizedMet enc Tryd.prog Tryd.f4 (OpenSpec.ofChange Rows.lexNamesSpec) false w args)
      (Rows.lexNamesSpec.post enc Tryd.prog Tryd.f4 false true false false) := by
  refine returnsInHanded_of_change_and (C := Tryd.checked) (X := fun w _ => laidMetH Tryd.prog Rows.lexNamesRow.laid w) (fun _ _ _ hh h => h.of_heap hh) own started (by kernel_rfl) Tryd.func4
    (ChangeSpec.witness_shaped (enc := enc) (C := Tryd.checked) (os := os) (X := fun w _ => laidMetH Tryd.prog Rows.lexNamesRow.laid w) false (World.laidAll Tryd.prog os Rows.lexNamesRow.laid) #[.string ⟨#[]⟩, .slice none 0 0] 8 (World.laidAll_os _ _ _)
      (World.shaped_of_ZipB (by kernel_rfl) (by kernel_rfl)) (by kernel_rfl) (by kernel_rfl) (by kernel_rfl)
      (by rw [MakeChecks.laidMetH_plain _ _ _ (by kernel_rfl)]; exact laidMet_laidAll _ (by kernel_rfl) (by kernel_rfl))) ?_
  intro W base args ds gs before hval0 hW hcnd hsz hlaid _
  have hg := told W hlaid
  have hval : ∀ (j : Nat) t v, Tryd.f4.params[j]? = some t → args[j]? = some v → Value.okWide Tryd.prog W .any base t v := hval0
  have hW' := hW
  obtain ⟨p, q, hA0, hV, rfl, hfz, hnd⟩ := hW
  have hA : DataW.TrodAll enc Tryd.prog W 0 (fun _ => true) true Tryd.f4.params.toList args.toList ds p := hA0
  rw [Tryd.params4] at hA hval
  obtain ⟨v0, vs0, d0, ds0, p0, q0, hargs, rfl, rfl, h0, r0⟩ := trodAll_cons hA
  obtain ⟨v1, vs1, d1, ds1, p1, q1, rfl, rfl, rfl, h1, r1⟩ := trodAll_cons r0
  obtain ⟨rfl, rfl, rfl⟩ := trodAll_nil r1
  obtain rfl : args = #[v0, v1] := by cases args; simp_all
  obtain ⟨rfl, rfl⟩ := trodVars_none hV
  replace hsz : (DataW.weightsEach Tryd.prog (Tryd.f4.params.toList ++ []) (_ ++ [])).all (· ≤ reachBytes) = true := hsz
  rw [Tryd.params4] at hsz
  obtain ⟨s0, e0, _, rfl⟩ := arg_str Tryd.underlying9 (hval 0 9 v0 rfl rfl) h0
  have L0 := len_str hsz (j := 0) (t := 9) rfl rfl
  obtain ⟨x1, e1, W1, z1⟩ := arg_ints (k := .i64) Tryd.underlying31 Tryd.underlying3 (by decide +kernel) (hval 1 31 v1 rfl rfl) h1
  have L1 := len_ints hsz (j := 1) (t := 31) rfl rfl Tryd.underlying31 z1
  rw [show Tryd.prog.bytesOf 3 = 8 by decide +kernel] at L1
  refine (Call.true (vals := [v0, v1]) (by have h := names_spec s0 x1 (by omega) (by omega); rw [show Go.S2.enc intC x1 = x1.map (.i .i64) from enc_map (AV.i .i64) x1] at h; exact h) Tryd.func4 (by decide) (by decide) W hg (VRL.cons e0 (VRL.cons e1 VRL.nil))).mono ?_
  rintro e W' ⟨rfl, hb⟩
  exact ⟨_, rfl, post_true hW' rfl rfl (by kernel_rfl) (by kernel_rfl) (tb := 4) rfl Tryd.underlying4 hb⟩

theorem over : Rows.lexNamesRow.holds Tryd.pinned (OpenSpec.ofChange Rows.lexNamesSpec) :=
  OpenClaim.holds_of_wide 4 Tryd.f4 rfl rfl rfl rfl rfl rfl rfl ⟨rfl, rfl, rfl, rfl, rfl⟩ rfl rfl rfl rfl rfl (by kernel_rfl) Tryd.func4 (by kernel_rfl)
    (of_decide_eq_true (by kernel_rfl)) (by unfold Func.isWrapper; first | (rw [if_pos (by decide +kernel)]; kernel_rfl) | (rw [if_neg (by decide +kernel)]; exact ⟨rfl, rfl⟩))
    (fun os started H enc _ => lifted os started H enc)

theorem noStand : ∀ t ∈ Tryd.f4.params.toList, Tryd.prog.wantsStandIn t = false := by
  rw [Tryd.params4]
  simp only [List.mem_cons, List.mem_nil_iff, or_false, forall_eq_or_imp, forall_eq]
  exact ⟨by kernel_rfl, by kernel_rfl⟩

/-- The tied card. -/
theorem card_holds : Rows.LexNamesCardSaid :=
  Claim7.holds_tied_plain_at .later [] [.data, .data, .data, .sentinel, .sentinel, .listed, .data] true (true, "c45648fbc84bcca87bb8c1cf1f89e899ee794ff40b6355ea2a6ccf58af5f1a2f") true
    over (fun _ h => by cases h) (by kernel_rfl) (fun _ h => by cases h) lexNames_row_tie rfl ⟨rfl, rfl⟩ (by kernel_rfl) rfl
    (fun f fn hf hfn => by
      obtain rfl : f = 4 := Option.some.inj ((show Tryd.prog.funcNamed "columbary/columbarylaw04.LexNames" = some 4 by kernel_rfl).symm.trans hf) |>.symm
      obtain rfl : fn = Tryd.f4 := (Option.some.inj (Tryd.func4.symm.trans hfn)).symm
      exact ⟨by kernel_rfl, fun j t ht => noStand t (by
        rw [Array.getElem?_eq_some_iff] at ht
        obtain ⟨hj, rfl⟩ := ht
        simp)⟩)
    (by kernel_rfl)
end Go.Proofs.YtabobghngfmilaaDoor.lexNames
namespace Go.Proofs.YtabobghngfmilaaDoor
/-- LexNames, the tied card. -/
theorem lexNames_card : Rows.LexNamesCardSaid := lexNames.card_holds
#print axioms lexNames_card
end Go.Proofs.YtabobghngfmilaaDoor
