/-
  No cell of these rows narrows 'for every input' (looked for: loops, veiled, ifaces, maps, wideKeys, modest, calm, conditions, laid).
  DERIVED. THE GIVEN ROWS OF THIS SEAT. 7 by the template 'for every input the law returns true; each argument reads behind the call as it read before'; 0 by the template 'total and deterministic' (their statements: YtdbhnlelpcoldaaTotals.lean).
  GIVEN WITH THE SEED: the statements are not yours to turn. If you find one false, say at which input.
  Laid BY PROGRAM, IN A SANDBOX (cutbox-rows.mjs): the forced cells as the released guide's own fill.sh prints them over the translation 0412b04f0a7651ad… (all of the seat's roots in one cut). By AI agents, Wed Nov 11 2026. No macro, syntax, notation, axiom, sorry.
-/
import Derived.Test.YtdbhnlelpcoldaaChecked
import GoSem.Claim
import GoSem.ClaimJoined
import GoSem.ClaimMapViews
import Derived.JoinedTies
import Derived.KernelRfl
namespace Go.Proofs.Ytdbhnlelpcoldaa
/- THE CELL 'sum', in the pinned program and in every row, IS THE sha256 OF THE DUMP (.gsa) THAT YtdbhnlelpcoldaaProg.lean LOADS. Nothing in Lean hashes anything: it is a label: what it is worth is what the hold of that sum in a sandbox is worth. -/
noncomputable def Try.pinned : Pinned := { name := "ytdbhnlelpcoldaa", sum := "0412b04f0a7651ad6cff81b6721424cfc3d692a19b61e0111f647b1bdcb5ec50", checked := Try.checked }
namespace Rows
def none {H : Type} : Left H := { results := [], args := [] }

/-- 'laws.FnExactConstants': WHATEVER THE INPUT: true; the input reads as it did. -/
def fnExactConstantsSpec : ChangeSpec := { name := "fnExactConstants", fn := fun _ => fun
  | [] => { results := [.lit (.bool true)], args := [] }
  | _ => none }
def fnExactConstantsRow : OpenClaim := { program := "ytdbhnlelpcoldaa", sum := "0412b04f0a7651ad6cff81b6721424cfc3d692a19b61e0111f647b1bdcb5ec50", func := "loop.example/twist/laws.FnExactConstants", spec := "fnExactConstants", apart := false }
def FnExactConstantsSaid : Prop := fnExactConstantsRow.holds Try.pinned (OpenSpec.ofChange fnExactConstantsSpec)

/-- ITS FALSE NEIGHBOUR: 'it returns false'. Refute it at one input. -/
def fnExactConstantsWrong : ChangeSpec := { name := "fnExactConstants", fn := fun _ => fun
  | [] => { results := [.lit (.bool false)], args := [] }
  | _ => none }
def FnExactConstantsWrongFalsely : Prop := fnExactConstantsRow.holds Try.pinned (OpenSpec.ofChange fnExactConstantsWrong)

/-- 'laws.FnExactEscape': WHATEVER THE INPUT: true; the input reads as it did. -/
def fnExactEscapeSpec : ChangeSpec := { name := "fnExactEscape", fn := fun _ => fun
  | [d] => { results := [.lit (.bool true)], args := [d] }
  | _ => none }
def fnExactEscapeRow : OpenClaim := { program := "ytdbhnlelpcoldaa", sum := "0412b04f0a7651ad6cff81b6721424cfc3d692a19b61e0111f647b1bdcb5ec50", func := "loop.example/twist/laws.FnExactEscape", spec := "fnExactEscape", apart := false }
def FnExactEscapeSaid : Prop := fnExactEscapeRow.holds Try.pinned (OpenSpec.ofChange fnExactEscapeSpec)

/-- ITS FALSE NEIGHBOUR: 'it returns false'. Refute it at one input. -/
def fnExactEscapeWrong : ChangeSpec := { name := "fnExactEscape", fn := fun _ => fun
  | [d] => { results := [.lit (.bool false)], args := [d] }
  | _ => none }
def FnExactEscapeWrongFalsely : Prop := fnExactEscapeRow.holds Try.pinned (OpenSpec.ofChange fnExactEscapeWrong)

/-- 'laws.FnExactQuote': WHATEVER THE INPUT: true; the input reads as it did. -/
def fnExactQuoteSpec : ChangeSpec := { name := "fnExactQuote", fn := fun _ => fun
  | [d] => { results := [.lit (.bool true)], args := [d] }
  | _ => none }
def fnExactQuoteRow : OpenClaim := { program := "ytdbhnlelpcoldaa", sum := "0412b04f0a7651ad6cff81b6721424cfc3d692a19b61e0111f647b1bdcb5ec50", func := "loop.example/twist/laws.FnExactQuote", spec := "fnExactQuote", apart := false }
def FnExactQuoteSaid : Prop := fnExactQuoteRow.holds Try.pinned (OpenSpec.ofChange fnExactQuoteSpec)

/-- ITS FALSE NEIGHBOUR: 'it returns false'. Refute it at one input. -/
def fnExactQuoteWrong : ChangeSpec := { name := "fnExactQuote", fn := fun _ => fun
  | [d] => { results := [.lit (.bool false)], args := [d] }
  | _ => none }
def FnExactQuoteWrongFalsely : Prop := fnExactQuoteRow.holds Try.pinned (OpenSpec.ofChange fnExactQuoteWrong)

/-- 'laws.FnTemplates': WHATEVER THE INPUT: true; the input reads as it did. -/
def fnTemplatesSpec : ChangeSpec := { name := "fnTemplates", fn := fun _ => fun
  | [d] => { results := [.lit (.bool true)], args := [d] }
  | _ => none }
def fnTemplatesRow : OpenClaim := { program := "ytdbhnlelpcoldaa", sum := "0412b04f0a7651ad6cff81b6721424cfc3d692a19b61e0111f647b1bdcb5ec50", func := "loop.example/twist/laws.FnTemplates", spec := "fnTemplates", unfollowed := true, recurses := true, apart := false }
def FnTemplatesSaid : Prop := fnTemplatesRow.holds Try.pinned (OpenSpec.ofChange fnTemplatesSpec)

/-- ITS FALSE NEIGHBOUR: 'it returns false'. Refute it at one input. -/
def fnTemplatesWrong : ChangeSpec := { name := "fnTemplates", fn := fun _ => fun
  | [d] => { results := [.lit (.bool false)], args := [d] }
  | _ => none }
def FnTemplatesWrongFalsely : Prop := fnTemplatesRow.holds Try.pinned (OpenSpec.ofChange fnTemplatesWrong)

/-- 'laws.FnExactUnquote': WHATEVER THE INPUT: true; the input reads as it did. -/
def fnExactUnquoteSpec : ChangeSpec := { name := "fnExactUnquote", fn := fun _ => fun
  | [d] => { results := [.lit (.bool true)], args := [d] }
  | _ => none }
def fnExactUnquoteRow : OpenClaim := { program := "ytdbhnlelpcoldaa", sum := "0412b04f0a7651ad6cff81b6721424cfc3d692a19b61e0111f647b1bdcb5ec50", func := "loop.example/twist/laws.FnExactUnquote", spec := "fnExactUnquote", apart := false }
def FnExactUnquoteSaid : Prop := fnExactUnquoteRow.holds Try.pinned (OpenSpec.ofChange fnExactUnquoteSpec)

/-- ITS FALSE NEIGHBOUR: 'it returns false'. Refute it at one input. -/
def fnExactUnquoteWrong : ChangeSpec := { name := "fnExactUnquote", fn := fun _ => fun
  | [d] => { results := [.lit (.bool false)], args := [d] }
  | _ => none }
def FnExactUnquoteWrongFalsely : Prop := fnExactUnquoteRow.holds Try.pinned (OpenSpec.ofChange fnExactUnquoteWrong)

/-- 'laws.FnExactReadTemplate': WHATEVER THE INPUT: true; the input reads as it did. -/
def fnExactReadTemplateSpec : ChangeSpec := { name := "fnExactReadTemplate", fn := fun _ => fun
  | [d] => { results := [.lit (.bool true)], args := [d] }
  | _ => none }
def fnExactReadTemplateRow : OpenClaim := { program := "ytdbhnlelpcoldaa", sum := "0412b04f0a7651ad6cff81b6721424cfc3d692a19b61e0111f647b1bdcb5ec50", func := "loop.example/twist/laws.FnExactReadTemplate", spec := "fnExactReadTemplate", unfollowed := true, recurses := true, apart := false }
def FnExactReadTemplateSaid : Prop := fnExactReadTemplateRow.holds Try.pinned (OpenSpec.ofChange fnExactReadTemplateSpec)

/-- ITS FALSE NEIGHBOUR: 'it returns false'. Refute it at one input. -/
def fnExactReadTemplateWrong : ChangeSpec := { name := "fnExactReadTemplate", fn := fun _ => fun
  | [d] => { results := [.lit (.bool false)], args := [d] }
  | _ => none }
def FnExactReadTemplateWrongFalsely : Prop := fnExactReadTemplateRow.holds Try.pinned (OpenSpec.ofChange fnExactReadTemplateWrong)

/-- 'laws.FnQuote': WHATEVER THE INPUT: true; the input reads as it did. -/
def fnQuoteSpec : ChangeSpec := { name := "fnQuote", fn := fun _ => fun
  | [d] => { results := [.lit (.bool true)], args := [d] }
  | _ => none }
def fnQuoteRow : OpenClaim := { program := "ytdbhnlelpcoldaa", sum := "0412b04f0a7651ad6cff81b6721424cfc3d692a19b61e0111f647b1bdcb5ec50", func := "loop.example/twist/laws.FnQuote", spec := "fnQuote", apart := false }
def FnQuoteSaid : Prop := fnQuoteRow.holds Try.pinned (OpenSpec.ofChange fnQuoteSpec)

/-- ITS FALSE NEIGHBOUR: 'it returns false'. Refute it at one input. -/
def fnQuoteWrong : ChangeSpec := { name := "fnQuote", fn := fun _ => fun
  | [d] => { results := [.lit (.bool false)], args := [d] }
  | _ => none }
def FnQuoteWrongFalsely : Prop := fnQuoteRow.holds Try.pinned (OpenSpec.ofChange fnQuoteWrong)

/- THE SECOND FORM. 'bulk': how many values and letters a reading holds, each counted each time it is reached (what is shared counts as often as it is met; a slice's spare places count too). A statement '..UptoSaid' is the law's where the arguments, and the package variables that the reading takes, are together of bulk at most 1048576: NARROWER than '..Said'. Prove '..Said' where nothing that the law and all that it calls make is longer than what came in: it says more and counts as full. Else prove '..UptoSaid'. A law counts once. -/
mutual
def uptoBulk {H : Type} : DataW H → Nat
  | .lit (.string bytes) => bytes.length + 1
  | .lit _ => 1
  | .nil => 1
  | .ptr d => uptoBulk d + 1
  | .slice elems spare => uptoBulkAll elems + uptoBulkAll spare + 1
  | .agg parts => uptoBulkAll parts + 1
  | .iface _ d => uptoBulk d + 1
  | .map entries => uptoBulkEntries entries + 1
  | .held _ => 1
def uptoBulkAll {H : Type} : List (DataW H) → Nat
  | [] => 0
  | d :: r => uptoBulk d + uptoBulkAll r
def uptoBulkEntries {H : Type} : List (Lit × DataW H) → Nat
  | [] => 0
  | x :: r => uptoBulkEntry x + uptoBulkEntries r
def uptoBulkEntry {H : Type} : Lit × DataW H → Nat
  | (.string bytes, d) => bytes.length + uptoBulk d + 1
  | (_, d) => uptoBulk d + 1
 end
def uptoSmall : (H : Type) → List (DataW H) → Bool := fun _ ds => decide (uptoBulkAll ds ≤ 1048576)
def OpenSpec.upto (s : _root_.Go.ChangeSpec) : _root_.Go.OpenSpec := { _root_.Go.OpenSpec.ofChange s with cond := some uptoSmall }

/-- 'laws.FnExactConstants', WHERE WHAT IT READS IS OF BULK AT MOST 1048576: true; the input reads as it did. -/
def fnExactConstantsUptoRow : OpenClaim := { program := "ytdbhnlelpcoldaa", sum := "0412b04f0a7651ad6cff81b6721424cfc3d692a19b61e0111f647b1bdcb5ec50", func := "loop.example/twist/laws.FnExactConstants", spec := "fnExactConstants", apart := false, narrowed := true }
def FnExactConstantsUptoSaid : Prop := fnExactConstantsUptoRow.holds Try.pinned (OpenSpec.upto fnExactConstantsSpec)

/-- 'laws.FnExactEscape', WHERE WHAT IT READS IS OF BULK AT MOST 1048576: true; the input reads as it did. -/
def fnExactEscapeUptoRow : OpenClaim := { program := "ytdbhnlelpcoldaa", sum := "0412b04f0a7651ad6cff81b6721424cfc3d692a19b61e0111f647b1bdcb5ec50", func := "loop.example/twist/laws.FnExactEscape", spec := "fnExactEscape", apart := false, narrowed := true }
def FnExactEscapeUptoSaid : Prop := fnExactEscapeUptoRow.holds Try.pinned (OpenSpec.upto fnExactEscapeSpec)

/-- 'laws.FnExactQuote', WHERE WHAT IT READS IS OF BULK AT MOST 1048576: true; the input reads as it did. -/
def fnExactQuoteUptoRow : OpenClaim := { program := "ytdbhnlelpcoldaa", sum := "0412b04f0a7651ad6cff81b6721424cfc3d692a19b61e0111f647b1bdcb5ec50", func := "loop.example/twist/laws.FnExactQuote", spec := "fnExactQuote", apart := false, narrowed := true }
def FnExactQuoteUptoSaid : Prop := fnExactQuoteUptoRow.holds Try.pinned (OpenSpec.upto fnExactQuoteSpec)

/-- 'laws.FnTemplates', WHERE WHAT IT READS IS OF BULK AT MOST 1048576: true; the input reads as it did. -/
def fnTemplatesUptoRow : OpenClaim := { program := "ytdbhnlelpcoldaa", sum := "0412b04f0a7651ad6cff81b6721424cfc3d692a19b61e0111f647b1bdcb5ec50", func := "loop.example/twist/laws.FnTemplates", spec := "fnTemplates", unfollowed := true, recurses := true, apart := false, narrowed := true }
def FnTemplatesUptoSaid : Prop := fnTemplatesUptoRow.holds Try.pinned (OpenSpec.upto fnTemplatesSpec)

/-- 'laws.FnExactUnquote', WHERE WHAT IT READS IS OF BULK AT MOST 1048576: true; the input reads as it did. -/
def fnExactUnquoteUptoRow : OpenClaim := { program := "ytdbhnlelpcoldaa", sum := "0412b04f0a7651ad6cff81b6721424cfc3d692a19b61e0111f647b1bdcb5ec50", func := "loop.example/twist/laws.FnExactUnquote", spec := "fnExactUnquote", apart := false, narrowed := true }
def FnExactUnquoteUptoSaid : Prop := fnExactUnquoteUptoRow.holds Try.pinned (OpenSpec.upto fnExactUnquoteSpec)

/-- 'laws.FnExactReadTemplate', WHERE WHAT IT READS IS OF BULK AT MOST 1048576: true; the input reads as it did. -/
def fnExactReadTemplateUptoRow : OpenClaim := { program := "ytdbhnlelpcoldaa", sum := "0412b04f0a7651ad6cff81b6721424cfc3d692a19b61e0111f647b1bdcb5ec50", func := "loop.example/twist/laws.FnExactReadTemplate", spec := "fnExactReadTemplate", unfollowed := true, recurses := true, apart := false, narrowed := true }
def FnExactReadTemplateUptoSaid : Prop := fnExactReadTemplateUptoRow.holds Try.pinned (OpenSpec.upto fnExactReadTemplateSpec)

/-- 'laws.FnQuote', WHERE WHAT IT READS IS OF BULK AT MOST 1048576: true; the input reads as it did. -/
def fnQuoteUptoRow : OpenClaim := { program := "ytdbhnlelpcoldaa", sum := "0412b04f0a7651ad6cff81b6721424cfc3d692a19b61e0111f647b1bdcb5ec50", func := "loop.example/twist/laws.FnQuote", spec := "fnQuote", apart := false, narrowed := true }
def FnQuoteUptoSaid : Prop := fnQuoteUptoRow.holds Try.pinned (OpenSpec.upto fnQuoteSpec)

end Rows
end Go.Proofs.Ytdbhnlelpcoldaa
