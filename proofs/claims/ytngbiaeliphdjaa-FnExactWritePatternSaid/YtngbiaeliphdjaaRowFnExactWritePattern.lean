/- The program's WritePattern returns what the reference's returns, for every pattern, read or not. -/
import Derived.Test.YtngbiaeliphdjaaRows
import Derived.Test.YtngbiaeliphdjaaRkF
import Derived.Test.YtngbiaeliphdjaaPfA
import Derived.Test.YtngbiaeliphdjaaPfB
import Derived.WalkKit
import Derived.ProofKit
import Derived.OpenShut
import Derived.ShutString
import Derived.ChangeOld
import Derived.Below
import Derived.SizedLaws
namespace Go.Proofs.Ytngbiaeliphdjaa.fnExactWritePattern
open Go.ChangeShapes Go.WideShapes Go.ChangeAt Go.RowKit
open Go.ChangeMaps (open_string shut_string)
set_option linter.unusedVariables false
theorem own : ownKnob Try.prog.godebug = none := by kernel_rfl
set_option maxRecDepth 100000 in
theorem lifted (os : Os) (started : os.Started) (H : Type) (enc : TypeId × Value → H) :
    ReturnsInHanded {} Try.checked os 13 .any (Rows.fnExactWritePatternSpec.pre6 enc Try.prog Try.f13 Rows.fnExactWritePatternRow.domain false) (Rows.fnExactWritePatternSpec.post enc Try.prog Try.f13 false true false false) := by
  refine returnsInHanded_of_change_sized (C := Try.checked) own started (by kernel_rfl) Try.func13
    (ChangeSpec.witness6 (enc := enc) (C := Try.checked) false ⟨#[], #[.agg #[.bool false, .int .i64 0, .int .i64 0, .slice none 0 0]], []⟩ 8 (by kernel_rfl) (by kernel_rfl) (by kernel_rfl) (by kernel_rfl)) ?_
  intro W base args ds gs before hval0 hW hcnd hsz0 _
  have hsz : (DataW.weightsEach Try.prog (Try.f13.params.toList ++ Rows.fnExactWritePatternSpec.plain.varTypes Try.prog) (ds ++ gs)).all (· ≤ reachBytes) = true := hsz0
  have hval : ∀ (j : Nat) t v, Try.f13.params[j]? = some t → args[j]? = some v → Value.okWide Try.prog W .any base t v := hval0
  have hW' := hW
  obtain ⟨p, q, hA0, hV, rfl, hfz, hnd⟩ := hW
  have hA : DataW.TrodAll enc Try.prog W 0 (fun _ => true) true Try.f13.params.toList args.toList ds p := hA0
  rw [Try.params13] at hA hval hsz
  obtain ⟨v0, vs0, d0, ds0, p0, q0, hargs, rfl, rfl, h0, r0⟩ := trodAll_cons hA
  obtain ⟨rfl, rfl, rfl⟩ := trodAll_nil r0
  obtain rfl : args = #[v0] := by cases args; simp_all
  obtain ⟨rfl, rfl⟩ := trodVars_none hV
  obtain ⟨t0, n0, m0, a0, l0, c0, rs0, ps0, rfl, w0⟩ := V.open_pattern (hval 0 62 v0 rfl rfl) h0
  clear hA0 hval0 hsz0 hsz
  refine (V.lawWrite_ok t0 n0 m0 a0 l0 c0 rs0 ps0 W w0).2.mono fun e W' ⟨he, bel⟩ => ?_
  subst he
  exact ⟨_, rfl, _, _, _, [], _, [], hW', trodAll_mk1 (shut_bool Try.underlying4 _), Go.Vc.trodAll_back bel (by kernel_rfl) (by kernel_rfl) (by kernel_rfl) (by kernel_rfl) hA, rfl, bel.frame _, fun h => by cases h⟩
theorem x1 : Try.prog.recurses 13 = Rows.fnExactWritePatternRow.recurses := by kernel_rfl
theorem x2 : Try.prog.unfollowed 13 = Rows.fnExactWritePatternRow.unfollowed := by kernel_rfl
theorem x3 : Try.prog.inPlace 13 = Rows.fnExactWritePatternRow.inPlace := by kernel_rfl
theorem x4 : Try.prog.varsNamed 13 = Rows.fnExactWritePatternRow.named := by kernel_rfl
theorem facts : joinedFacts Try.prog 13 Try.f13 Rows.fnExactWritePatternSpec Rows.fnExactWritePatternRow = true := by
  unfold joinedFacts
  rw [prog_mayEnter, prog_lifts, prog_laid, prog_maps, prog_stops, x1, x2, x3, x4]
  kernel_rfl
theorem over : Rows.fnExactWritePatternRow.holds Try.pinned (OpenSpec.ofChange Rows.fnExactWritePatternSpec) :=
  OpenClaim.holds_of_wide 13 Try.f13 rfl rfl rfl rfl rfl rfl rfl ⟨rfl, rfl, rfl, rfl, rfl⟩ rfl rfl rfl rfl rfl (by kernel_rfl) Try.func13 facts
    (of_decide_eq_true (by kernel_rfl)) (by unfold Func.isWrapper; first | (rw [if_pos (by decide +kernel)]; kernel_rfl) | (rw [if_neg (by decide +kernel)]; exact ⟨rfl, rfl⟩))
    (fun os started H enc _ => lifted os started H enc)
theorem proved : Rows.FnExactWritePatternSaid := over
#print axioms proved
end Go.Proofs.Ytngbiaeliphdjaa.fnExactWritePattern
namespace Go.Proofs.Ytngbiaeliphdjaa
/-- The row, under a short name, for the claim. -/
theorem fnExactWritePattern_holds : Rows.FnExactWritePatternSaid := fnExactWritePattern.proved
end Go.Proofs.Ytngbiaeliphdjaa
