/- At every pattern, text, template and bound Replace answers as the reference's. -/
import Derived.Test.YtngbiaeliphdjaaRows
import Derived.Test.YtngbiaeliphdjaaRbF
import Derived.Test.YtngbiaeliphdjaaPfA
import Derived.Test.YtngbiaeliphdjaaPfB
import Derived.WalkKit
import Derived.ProofKit
import Derived.OpenShut
import Derived.ShutString
import Derived.ChangeOld
import Derived.Below
import Derived.SizedLaws
namespace Go.Proofs.Ytngbiaeliphdjaa.fnExactReplace
open Go.ChangeShapes Go.WideShapes Go.ChangeAt Go.RowKit
open Go.ChangeMaps (open_string shut_string)
set_option linter.unusedVariables false
theorem own : ownKnob Try.prog.godebug = none := by kernel_rfl
set_option maxRecDepth 100000 in
theorem lifted (os : Os) (started : os.Started) (H : Type) (enc : TypeId × Value → H) :
    ReturnsInHanded {} Try.checked os 17 .any (Rows.fnExactReplaceSpec.pre6 enc Try.prog Try.f17 Rows.fnExactReplaceRow.domain false) (Rows.fnExactReplaceSpec.post enc Try.prog Try.f17 false true false false) := by
  refine returnsInHanded_of_change_sized (C := Try.checked) own started (by kernel_rfl) Try.func17
    (ChangeSpec.witness6 (enc := enc) (C := Try.checked) false ⟨#[], #[.string ByteArray.empty, .string ByteArray.empty, .string ByteArray.empty, .int .i64 0], []⟩ 8 (by kernel_rfl) (by kernel_rfl) (by kernel_rfl) (by kernel_rfl)) ?_
  intro W base args ds gs before hval0 hW hcnd hsz0 _
  have hsz : (DataW.weightsEach Try.prog (Try.f17.params.toList ++ Rows.fnExactReplaceSpec.plain.varTypes Try.prog) (ds ++ gs)).all (· ≤ reachBytes) = true := hsz0
  have hval : ∀ (j : Nat) t v, Try.f17.params[j]? = some t → args[j]? = some v → Value.okWide Try.prog W .any base t v := hval0
  have hW' := hW
  obtain ⟨p, q, hA0, hV, rfl, hfz, hnd⟩ := hW
  have hA : DataW.TrodAll enc Try.prog W 0 (fun _ => true) true Try.f17.params.toList args.toList ds p := hA0
  rw [Try.params17] at hA hval hsz
  obtain ⟨v0, vs0, d0, ds0, p0, q0, hargs, rfl, rfl, h0, r0⟩ := trodAll_cons hA
  obtain ⟨v1, vs1, d1, ds1, p1, q1, rfl, rfl, rfl, h1, r1⟩ := trodAll_cons r0
  obtain ⟨v2, vs2, d2, ds2, p2, q2, rfl, rfl, rfl, h2, r2⟩ := trodAll_cons r1
  obtain ⟨v3, vs3, d3, ds3, p3, q3, rfl, rfl, rfl, h3, r3⟩ := trodAll_cons r2
  obtain ⟨rfl, rfl, rfl⟩ := trodAll_nil r3
  obtain rfl : args = #[v0, v1, v2, v3] := by cases args; simp_all
  obtain ⟨rfl, rfl⟩ := trodVars_none hV
  obtain ⟨a0, rfl, rfl, rfl, y0⟩ := open_string Try.underlying9 (hval 0 9 v0 rfl rfl) h0
  have w0 : a0.size ≤ 140737488351232 := by
    have z := sized_string hsz (j := 0) (t := 9) rfl rfl
    rw [Array.length_toList] at z
    exact z
  obtain ⟨a1, rfl, rfl, rfl, y1⟩ := open_string Try.underlying9 (hval 1 9 v1 rfl rfl) h1
  have w1 : a1.size ≤ 140737488351232 := by
    have z := sized_string hsz (j := 1) (t := 9) rfl rfl
    rw [Array.length_toList] at z
    exact z
  obtain ⟨a2, rfl, rfl, rfl, y2⟩ := open_string Try.underlying9 (hval 2 9 v2 rfl rfl) h2
  have w2 : a2.size ≤ 140737488351232 := by
    have z := sized_string hsz (j := 2) (t := 9) rfl rfl
    rw [Array.length_toList] at z
    exact z
  obtain ⟨a3, rfl, rfl, rfl, y3⟩ := open_int Try.underlying3 (hval 3 3 v3 rfl rfl) h3
  have w3 : -9223372036854775808 ≤ a3 ∧ a3 ≤ 9223372036854775807 := bounds_i64 y3
  clear hA0 hval0 hsz0 hsz
  refine (V.lawReplace_ok a0 a1 a2 a3 W ).2.mono fun e W' ⟨he, bel⟩ => ?_
  subst he
  exact ⟨_, rfl, _, _, _, [], _, [], hW', trodAll_mk1 (shut_bool Try.underlying4 _), Go.Vc.trodAll_back bel (by kernel_rfl) (by kernel_rfl) (by kernel_rfl) (by kernel_rfl) hA, rfl, bel.frame _, fun h => by cases h⟩
theorem x1 : Try.prog.recurses 17 = Rows.fnExactReplaceRow.recurses := by kernel_rfl
theorem x2 : Try.prog.unfollowed 17 = Rows.fnExactReplaceRow.unfollowed := by kernel_rfl
theorem x3 : Try.prog.inPlace 17 = Rows.fnExactReplaceRow.inPlace := by kernel_rfl
theorem x4 : Try.prog.varsNamed 17 = Rows.fnExactReplaceRow.named := by kernel_rfl
theorem facts : joinedFacts Try.prog 17 Try.f17 Rows.fnExactReplaceSpec Rows.fnExactReplaceRow = true := by
  unfold joinedFacts
  rw [prog_mayEnter, prog_lifts, prog_laid, prog_maps, prog_stops, x1, x2, x3, x4]
  kernel_rfl
theorem over : Rows.fnExactReplaceRow.holds Try.pinned (OpenSpec.ofChange Rows.fnExactReplaceSpec) :=
  OpenClaim.holds_of_wide 17 Try.f17 rfl rfl rfl rfl rfl rfl rfl ⟨rfl, rfl, rfl, rfl, rfl⟩ rfl rfl rfl rfl rfl (by kernel_rfl) Try.func17 facts
    (of_decide_eq_true (by kernel_rfl)) (by unfold Func.isWrapper; first | (rw [if_pos (by decide +kernel)]; kernel_rfl) | (rw [if_neg (by decide +kernel)]; exact ⟨rfl, rfl⟩))
    (fun os started H enc _ => lifted os started H enc)
theorem proved : Rows.FnExactReplaceSaid := over
#print axioms proved
end Go.Proofs.Ytngbiaeliphdjaa.fnExactReplace
namespace Go.Proofs.Ytngbiaeliphdjaa
/-- The row, under a short name, for the claim. -/
theorem fnExactReplace_holds : Rows.FnExactReplaceSaid := fnExactReplace.proved
end Go.Proofs.Ytngbiaeliphdjaa
