/- What Find finds from a drawn place of a drawn text is the first of the Ways at its From; nothing ahead of that has a way; All is Find, one behind the other. -/
import Derived.Test.YtngbiaeliphdjaaRows
import Derived.Test.YtngbiaeliphdjaaReF
import Derived.Test.YtngbiaeliphdjaaPfA
import Derived.Test.YtngbiaeliphdjaaPfB
import Derived.WalkKit
import Derived.ProofKit
import Derived.OpenShut
import Derived.ShutString
import Derived.ChangeOld
import Derived.Below
import Derived.SizedLaws
namespace Go.Proofs.Ytngbiaeliphdjaa.fnFirst
open Go.ChangeShapes Go.WideShapes Go.ChangeAt Go.RowKit
open Go.ChangeMaps (open_string shut_string)
set_option linter.unusedVariables false
theorem own : ownKnob Try.prog.godebug = none := by kernel_rfl
set_option maxRecDepth 100000 in
theorem lifted (os : Os) (started : os.Started) (H : Type) (enc : TypeId × Value → H) :
    ReturnsInHanded {} Try.checked os 16 .any (Rows.fnFirstSpec.pre6 enc Try.prog Try.f16 Rows.fnFirstRow.domain false) (Rows.fnFirstSpec.post enc Try.prog Try.f16 false true false false) := by
  refine returnsInHanded_of_change_sized (C := Try.checked) own started (by kernel_rfl) Try.func16
    (ChangeSpec.witness6 (enc := enc) (C := Try.checked) false ⟨#[], #[.slice none 0 0, .slice none 0 0], []⟩ 8 (by kernel_rfl) (by kernel_rfl) (by kernel_rfl) (by kernel_rfl)) ?_
  intro W base args ds gs before hval0 hW hcnd hsz0 _
  have hsz : (DataW.weightsEach Try.prog (Try.f16.params.toList ++ Rows.fnFirstSpec.plain.varTypes Try.prog) (ds ++ gs)).all (· ≤ reachBytes) = true := hsz0
  have hval : ∀ (j : Nat) t v, Try.f16.params[j]? = some t → args[j]? = some v → Value.okWide Try.prog W .any base t v := hval0
  have hW' := hW
  obtain ⟨p, q, hA0, hV, rfl, hfz, hnd⟩ := hW
  have hA : DataW.TrodAll enc Try.prog W 0 (fun _ => true) true Try.f16.params.toList args.toList ds p := hA0
  rw [Try.params16] at hA hval hsz
  obtain ⟨v0, vs0, d0, ds0, p0, q0, hargs, rfl, rfl, h0, r0⟩ := trodAll_cons hA
  obtain ⟨v1, vs1, d1, ds1, p1, q1, rfl, rfl, rfl, h1, r1⟩ := trodAll_cons r0
  obtain ⟨rfl, rfl, rfl⟩ := trodAll_nil r1
  obtain rfl : args = #[v0, v1] := by cases args; simp_all
  obtain ⟨rfl, rfl⟩ := trodVars_none hV
  obtain ⟨a0, l0, c0, rfl, w0⟩ := Go.Vc.open_bytes Try.underlying22 Try.underlying5 (by kernel_rfl) (hval 0 22 v0 rfl rfl) h0
  obtain ⟨a1, l1, c1, rfl, w1⟩ := Go.Vc.open_bytes Try.underlying22 Try.underlying5 (by kernel_rfl) (hval 1 22 v1 rfl rfl) h1
  clear hA0 hval0 hsz0 hsz
  refine (V.lawFirst_ok a0 l0 c0 a1 l1 c1 W w0 w1).2.mono fun e W' ⟨he, bel⟩ => ?_
  subst he
  exact ⟨_, rfl, _, _, _, [], _, [], hW', trodAll_mk1 (shut_bool Try.underlying4 _), Go.Vc.trodAll_back bel (by kernel_rfl) (by kernel_rfl) (by kernel_rfl) (by kernel_rfl) hA, rfl, bel.frame _, fun h => by cases h⟩
theorem x1 : Try.prog.recurses 16 = Rows.fnFirstRow.recurses := by kernel_rfl
theorem x2 : Try.prog.unfollowed 16 = Rows.fnFirstRow.unfollowed := by kernel_rfl
theorem x3 : Try.prog.inPlace 16 = Rows.fnFirstRow.inPlace := by kernel_rfl
theorem x4 : Try.prog.varsNamed 16 = Rows.fnFirstRow.named := by kernel_rfl
theorem facts : joinedFacts Try.prog 16 Try.f16 Rows.fnFirstSpec Rows.fnFirstRow = true := by
  unfold joinedFacts
  rw [prog_mayEnter, prog_lifts, prog_laid, prog_maps, prog_stops, x1, x2, x3, x4]
  kernel_rfl
theorem over : Rows.fnFirstRow.holds Try.pinned (OpenSpec.ofChange Rows.fnFirstSpec) :=
  OpenClaim.holds_of_wide 16 Try.f16 rfl rfl rfl rfl rfl rfl rfl ⟨rfl, rfl, rfl, rfl, rfl⟩ rfl rfl rfl rfl rfl (by kernel_rfl) Try.func16 facts
    (of_decide_eq_true (by kernel_rfl)) (by unfold Func.isWrapper; first | (rw [if_pos (by decide +kernel)]; kernel_rfl) | (rw [if_neg (by decide +kernel)]; exact ⟨rfl, rfl⟩))
    (fun os started H enc _ => lifted os started H enc)
theorem proved : Rows.FnFirstSaid := over
#print axioms proved
end Go.Proofs.Ytngbiaeliphdjaa.fnFirst
namespace Go.Proofs.Ytngbiaeliphdjaa
/-- The row, under a short name, for the claim. -/
theorem fnFirst_holds : Rows.FnFirstSaid := fnFirst.proved
end Go.Proofs.Ytngbiaeliphdjaa
