/- At every pattern and text Split answers as the reference's, and its answer owns its memory: what is written into it stays behind another call. -/
import Derived.Test.YtngbiaeliphdjaaRows
import Derived.Test.YtngbiaeliphdjaaRaF
import Derived.Test.YtngbiaeliphdjaaPfA
import Derived.Test.YtngbiaeliphdjaaPfB
import Derived.WalkKit
import Derived.ProofKit
import Derived.OpenShut
import Derived.ShutString
import Derived.ChangeOld
import Derived.Below
import Derived.SizedLaws
namespace Go.Proofs.Ytngbiaeliphdjaa.fnExactSplit
open Go.ChangeShapes Go.WideShapes Go.ChangeAt Go.RowKit
open Go.ChangeMaps (open_string shut_string)
set_option linter.unusedVariables false
theorem own : ownKnob Try.prog.godebug = none := by kernel_rfl
set_option maxRecDepth 100000 in
theorem lifted (os : Os) (started : os.Started) (H : Type) (enc : TypeId × Value → H) :
    ReturnsInHanded {} Try.checked os 11 .any (Rows.fnExactSplitSpec.pre6 enc Try.prog Try.f11 Rows.fnExactSplitRow.domain false) (Rows.fnExactSplitSpec.post enc Try.prog Try.f11 false true false false) := by
  refine returnsInHanded_of_change_sized (C := Try.checked) own started (by kernel_rfl) Try.func11
    (ChangeSpec.witness6 (enc := enc) (C := Try.checked) false ⟨#[], #[.string ByteArray.empty, .string ByteArray.empty], []⟩ 8 (by kernel_rfl) (by kernel_rfl) (by kernel_rfl) (by kernel_rfl)) ?_
  intro W base args ds gs before hval0 hW hcnd hsz0 _
  have hsz : (DataW.weightsEach Try.prog (Try.f11.params.toList ++ Rows.fnExactSplitSpec.plain.varTypes Try.prog) (ds ++ gs)).all (· ≤ reachBytes) = true := hsz0
  have hval : ∀ (j : Nat) t v, Try.f11.params[j]? = some t → args[j]? = some v → Value.okWide Try.prog W .any base t v := hval0
  have hW' := hW
  obtain ⟨p, q, hA0, hV, rfl, hfz, hnd⟩ := hW
  have hA : DataW.TrodAll enc Try.prog W 0 (fun _ => true) true Try.f11.params.toList args.toList ds p := hA0
  rw [Try.params11] at hA hval hsz
  obtain ⟨v0, vs0, d0, ds0, p0, q0, hargs, rfl, rfl, h0, r0⟩ := trodAll_cons hA
  obtain ⟨v1, vs1, d1, ds1, p1, q1, rfl, rfl, rfl, h1, r1⟩ := trodAll_cons r0
  obtain ⟨rfl, rfl, rfl⟩ := trodAll_nil r1
  obtain rfl : args = #[v0, v1] := by cases args; simp_all
  obtain ⟨rfl, rfl⟩ := trodVars_none hV
  obtain ⟨a0, rfl, rfl, rfl, y0⟩ := open_string Try.underlying9 (hval 0 9 v0 rfl rfl) h0
  have w0 : a0.size ≤ 140737488351232 := by
    have z := sized_string hsz (j := 0) (t := 9) rfl rfl
    rw [Array.length_toList] at z
    exact z
  obtain ⟨a1, rfl, rfl, rfl, y1⟩ := open_string Try.underlying9 (hval 1 9 v1 rfl rfl) h1
  have w1 : a1.size ≤ 140737488351232 := by
    have z := sized_string hsz (j := 1) (t := 9) rfl rfl
    rw [Array.length_toList] at z
    exact z
  clear hA0 hval0 hsz0 hsz
  refine (V.lawSplit_ok a0 a1 W ).2.mono fun e W' ⟨he, bel⟩ => ?_
  subst he
  exact ⟨_, rfl, _, _, _, [], _, [], hW', trodAll_mk1 (shut_bool Try.underlying4 _), Go.Vc.trodAll_back bel (by kernel_rfl) (by kernel_rfl) (by kernel_rfl) (by kernel_rfl) hA, rfl, bel.frame _, fun h => by cases h⟩
theorem x1 : Try.prog.recurses 11 = Rows.fnExactSplitRow.recurses := by kernel_rfl
theorem x2 : Try.prog.unfollowed 11 = Rows.fnExactSplitRow.unfollowed := by kernel_rfl
theorem x3 : Try.prog.inPlace 11 = Rows.fnExactSplitRow.inPlace := by kernel_rfl
theorem x4 : Try.prog.varsNamed 11 = Rows.fnExactSplitRow.named := by kernel_rfl
theorem facts : joinedFacts Try.prog 11 Try.f11 Rows.fnExactSplitSpec Rows.fnExactSplitRow = true := by
  unfold joinedFacts
  rw [prog_mayEnter, prog_lifts, prog_laid, prog_maps, prog_stops, x1, x2, x3, x4]
  kernel_rfl
theorem over : Rows.fnExactSplitRow.holds Try.pinned (OpenSpec.ofChange Rows.fnExactSplitSpec) :=
  OpenClaim.holds_of_wide 11 Try.f11 rfl rfl rfl rfl rfl rfl rfl ⟨rfl, rfl, rfl, rfl, rfl⟩ rfl rfl rfl rfl rfl (by kernel_rfl) Try.func11 facts
    (of_decide_eq_true (by kernel_rfl)) (by unfold Func.isWrapper; first | (rw [if_pos (by decide +kernel)]; kernel_rfl) | (rw [if_neg (by decide +kernel)]; exact ⟨rfl, rfl⟩))
    (fun os started H enc _ => lifted os started H enc)
theorem proved : Rows.FnExactSplitSaid := over
#print axioms proved
end Go.Proofs.Ytngbiaeliphdjaa.fnExactSplit
namespace Go.Proofs.Ytngbiaeliphdjaa
/-- The row, under a short name, for the claim. -/
theorem fnExactSplit_holds : Rows.FnExactSplitSaid := fnExactSplit.proved
end Go.Proofs.Ytngbiaeliphdjaa
