/-
  No cell of these rows narrows 'for every input' (looked for: loops, veiled, ifaces, maps, wideKeys, modest, calm, conditions, laid).
  DERIVED. THE GIVEN ROWS OF THIS SEAT. 5 by the template 'for every input the law returns true; each argument reads behind the call as it read before'; 0 by the template 'total and deterministic' (their statements: YtkcgbkijlnpoiaaTotals.lean).
  GIVEN WITH THE SEED: the statements are not yours to turn. If you find one false, say at which input.
  Laid BY PROGRAM, IN A SANDBOX (cutbox-rows.mjs): the forced cells as the released guide's own fill.sh prints them over the translation 48dbf34de7e518a8… (all of the seat's roots in one cut). By AI agents, Wed Nov 11 2026. No macro, syntax, notation, axiom, sorry.
-/
import Derived.Test.YtkcgbkijlnpoiaaChecked
import GoSem.Claim
import GoSem.ClaimJoined
import GoSem.ClaimMapViews
import Derived.JoinedTies
import Derived.KernelRfl
namespace Go.Proofs.Ytkcgbkijlnpoiaa
/- THE CELL 'sum', in the pinned program and in every row, IS THE sha256 OF THE DUMP (.gsa) THAT YtkcgbkijlnpoiaaProg.lean LOADS. Nothing in Lean hashes anything: it is a label: what it is worth is what the hold of that sum in a sandbox is worth. -/
noncomputable def Try.pinned : Pinned := { name := "ytkcgbkijlnpoiaa", sum := "48dbf34de7e518a860759bdc10826057595c74281e74208fc213357d93cf1616", checked := Try.checked }
namespace Rows
def none {H : Type} : Left H := { results := [], args := [] }

/-- 'laws.FnExactTidyFormula': WHATEVER THE INPUT: true; the input reads as it did. -/
def fnExactTidyFormulaSpec : ChangeSpec := { name := "fnExactTidyFormula", fn := fun _ => fun
  | [d] => { results := [.lit (.bool true)], args := [d] }
  | _ => none }
def fnExactTidyFormulaRow : OpenClaim := { program := "ytkcgbkijlnpoiaa", sum := "48dbf34de7e518a860759bdc10826057595c74281e74208fc213357d93cf1616", func := "loop.example/g01089/laws.FnExactTidyFormula", spec := "fnExactTidyFormula", unfollowed := true, recurses := true, apart := false }
def FnExactTidyFormulaSaid : Prop := fnExactTidyFormulaRow.holds Try.pinned (OpenSpec.ofChange fnExactTidyFormulaSpec)

/-- ITS FALSE NEIGHBOUR: 'it returns false'. Refute it at one input. -/
def fnExactTidyFormulaWrong : ChangeSpec := { name := "fnExactTidyFormula", fn := fun _ => fun
  | [d] => { results := [.lit (.bool false)], args := [d] }
  | _ => none }
def FnExactTidyFormulaWrongFalsely : Prop := fnExactTidyFormulaRow.holds Try.pinned (OpenSpec.ofChange fnExactTidyFormulaWrong)

/-- 'laws.FnExactForgetClassically': WHATEVER THE INPUT: true; the input reads as it did. -/
def fnExactForgetClassicallySpec : ChangeSpec := { name := "fnExactForgetClassically", fn := fun _ => fun
  | [d1, d2] => { results := [.lit (.bool true)], args := [d1, d2] }
  | _ => none }
def fnExactForgetClassicallyRow : OpenClaim := { program := "ytkcgbkijlnpoiaa", sum := "48dbf34de7e518a860759bdc10826057595c74281e74208fc213357d93cf1616", func := "loop.example/g01089/laws.FnExactForgetClassically", spec := "fnExactForgetClassically", unfollowed := true, recurses := true, apart := false }
def FnExactForgetClassicallySaid : Prop := fnExactForgetClassicallyRow.holds Try.pinned (OpenSpec.ofChange fnExactForgetClassicallySpec)

/-- ITS FALSE NEIGHBOUR: 'it returns false'. Refute it at one input. -/
def fnExactForgetClassicallyWrong : ChangeSpec := { name := "fnExactForgetClassically", fn := fun _ => fun
  | [d1, d2] => { results := [.lit (.bool false)], args := [d1, d2] }
  | _ => none }
def FnExactForgetClassicallyWrongFalsely : Prop := fnExactForgetClassicallyRow.holds Try.pinned (OpenSpec.ofChange fnExactForgetClassicallyWrong)

/-- 'laws.FnExactWeakenClassically': WHATEVER THE INPUT: true; the input reads as it did. -/
def fnExactWeakenClassicallySpec : ChangeSpec := { name := "fnExactWeakenClassically", fn := fun _ => fun
  | [d1, d2] => { results := [.lit (.bool true)], args := [d1, d2] }
  | _ => none }
def fnExactWeakenClassicallyRow : OpenClaim := { program := "ytkcgbkijlnpoiaa", sum := "48dbf34de7e518a860759bdc10826057595c74281e74208fc213357d93cf1616", func := "loop.example/g01089/laws.FnExactWeakenClassically", spec := "fnExactWeakenClassically", unfollowed := true, recurses := true, apart := false }
def FnExactWeakenClassicallySaid : Prop := fnExactWeakenClassicallyRow.holds Try.pinned (OpenSpec.ofChange fnExactWeakenClassicallySpec)

/-- ITS FALSE NEIGHBOUR: 'it returns false'. Refute it at one input. -/
def fnExactWeakenClassicallyWrong : ChangeSpec := { name := "fnExactWeakenClassically", fn := fun _ => fun
  | [d1, d2] => { results := [.lit (.bool false)], args := [d1, d2] }
  | _ => none }
def FnExactWeakenClassicallyWrongFalsely : Prop := fnExactWeakenClassicallyRow.holds Try.pinned (OpenSpec.ofChange fnExactWeakenClassicallyWrong)

/-- 'laws.FnExactCorrespondentOf': WHATEVER THE INPUT: true; the input reads as it did. -/
def fnExactCorrespondentOfSpec : ChangeSpec := { name := "fnExactCorrespondentOf", fn := fun _ => fun
  | [d] => { results := [.lit (.bool true)], args := [d] }
  | _ => none }
def fnExactCorrespondentOfRow : OpenClaim := { program := "ytkcgbkijlnpoiaa", sum := "48dbf34de7e518a860759bdc10826057595c74281e74208fc213357d93cf1616", func := "loop.example/g01089/laws.FnExactCorrespondentOf", spec := "fnExactCorrespondentOf", unfollowed := true, recurses := true, apart := false }
def FnExactCorrespondentOfSaid : Prop := fnExactCorrespondentOfRow.holds Try.pinned (OpenSpec.ofChange fnExactCorrespondentOfSpec)

/-- ITS FALSE NEIGHBOUR: 'it returns false'. Refute it at one input. -/
def fnExactCorrespondentOfWrong : ChangeSpec := { name := "fnExactCorrespondentOf", fn := fun _ => fun
  | [d] => { results := [.lit (.bool false)], args := [d] }
  | _ => none }
def FnExactCorrespondentOfWrongFalsely : Prop := fnExactCorrespondentOfRow.holds Try.pinned (OpenSpec.ofChange fnExactCorrespondentOfWrong)

/-- 'laws.FnExactCommonVariables': WHATEVER THE INPUT: true; the input reads as it did. -/
def fnExactCommonVariablesSpec : ChangeSpec := { name := "fnExactCommonVariables", fn := fun _ => fun
  | [d1, d2, d3] => { results := [.lit (.bool true)], args := [d1, d2, d3] }
  | _ => none }
def fnExactCommonVariablesRow : OpenClaim := { program := "ytkcgbkijlnpoiaa", sum := "48dbf34de7e518a860759bdc10826057595c74281e74208fc213357d93cf1616", func := "loop.example/g01089/laws.FnExactCommonVariables", spec := "fnExactCommonVariables", unfollowed := true, recurses := true, apart := false }
def FnExactCommonVariablesSaid : Prop := fnExactCommonVariablesRow.holds Try.pinned (OpenSpec.ofChange fnExactCommonVariablesSpec)

/-- ITS FALSE NEIGHBOUR: 'it returns false'. Refute it at one input. -/
def fnExactCommonVariablesWrong : ChangeSpec := { name := "fnExactCommonVariables", fn := fun _ => fun
  | [d1, d2, d3] => { results := [.lit (.bool false)], args := [d1, d2, d3] }
  | _ => none }
def FnExactCommonVariablesWrongFalsely : Prop := fnExactCommonVariablesRow.holds Try.pinned (OpenSpec.ofChange fnExactCommonVariablesWrong)

/- THE SECOND FORM. 'bulk': how many values and letters a reading holds, each counted each time it is reached (what is shared counts as often as it is met; a slice's spare places count too). A statement '..UptoSaid' is the law's where the arguments, and the package variables that the reading takes, are together of bulk at most 1048576: NARROWER than '..Said'. Prove '..Said' where nothing that the law and all that it calls make is longer than what came in: it says more and counts as full. Else prove '..UptoSaid'. A law counts once. -/
mutual
def uptoBulk {H : Type} : DataW H → Nat
  | .lit (.string bytes) => bytes.length + 1
  | .lit _ => 1
  | .nil => 1
  | .ptr d => uptoBulk d + 1
  | .slice elems spare => uptoBulkAll elems + uptoBulkAll spare + 1
  | .agg parts => uptoBulkAll parts + 1
  | .iface _ d => uptoBulk d + 1
  | .map entries => uptoBulkEntries entries + 1
  | .held _ => 1
def uptoBulkAll {H : Type} : List (DataW H) → Nat
  | [] => 0
  | d :: r => uptoBulk d + uptoBulkAll r
def uptoBulkEntries {H : Type} : List (Lit × DataW H) → Nat
  | [] => 0
  | x :: r => uptoBulkEntry x + uptoBulkEntries r
def uptoBulkEntry {H : Type} : Lit × DataW H → Nat
  | (.string bytes, d) => bytes.length + uptoBulk d + 1
  | (_, d) => uptoBulk d + 1
 end
def uptoSmall : (H : Type) → List (DataW H) → Bool := fun _ ds => decide (uptoBulkAll ds ≤ 1048576)
def OpenSpec.upto (s : _root_.Go.ChangeSpec) : _root_.Go.OpenSpec := { _root_.Go.OpenSpec.ofChange s with cond := some uptoSmall }

/-- 'laws.FnExactTidyFormula', WHERE WHAT IT READS IS OF BULK AT MOST 1048576: true; the input reads as it did. -/
def fnExactTidyFormulaUptoRow : OpenClaim := { program := "ytkcgbkijlnpoiaa", sum := "48dbf34de7e518a860759bdc10826057595c74281e74208fc213357d93cf1616", func := "loop.example/g01089/laws.FnExactTidyFormula", spec := "fnExactTidyFormula", unfollowed := true, recurses := true, apart := false, narrowed := true }
def FnExactTidyFormulaUptoSaid : Prop := fnExactTidyFormulaUptoRow.holds Try.pinned (OpenSpec.upto fnExactTidyFormulaSpec)

/-- 'laws.FnExactForgetClassically', WHERE WHAT IT READS IS OF BULK AT MOST 1048576: true; the input reads as it did. -/
def fnExactForgetClassicallyUptoRow : OpenClaim := { program := "ytkcgbkijlnpoiaa", sum := "48dbf34de7e518a860759bdc10826057595c74281e74208fc213357d93cf1616", func := "loop.example/g01089/laws.FnExactForgetClassically", spec := "fnExactForgetClassically", unfollowed := true, recurses := true, apart := false, narrowed := true }
def FnExactForgetClassicallyUptoSaid : Prop := fnExactForgetClassicallyUptoRow.holds Try.pinned (OpenSpec.upto fnExactForgetClassicallySpec)

/-- 'laws.FnExactWeakenClassically', WHERE WHAT IT READS IS OF BULK AT MOST 1048576: true; the input reads as it did. -/
def fnExactWeakenClassicallyUptoRow : OpenClaim := { program := "ytkcgbkijlnpoiaa", sum := "48dbf34de7e518a860759bdc10826057595c74281e74208fc213357d93cf1616", func := "loop.example/g01089/laws.FnExactWeakenClassically", spec := "fnExactWeakenClassically", unfollowed := true, recurses := true, apart := false, narrowed := true }
def FnExactWeakenClassicallyUptoSaid : Prop := fnExactWeakenClassicallyUptoRow.holds Try.pinned (OpenSpec.upto fnExactWeakenClassicallySpec)

/-- 'laws.FnExactCorrespondentOf', WHERE WHAT IT READS IS OF BULK AT MOST 1048576: true; the input reads as it did. -/
def fnExactCorrespondentOfUptoRow : OpenClaim := { program := "ytkcgbkijlnpoiaa", sum := "48dbf34de7e518a860759bdc10826057595c74281e74208fc213357d93cf1616", func := "loop.example/g01089/laws.FnExactCorrespondentOf", spec := "fnExactCorrespondentOf", unfollowed := true, recurses := true, apart := false, narrowed := true }
def FnExactCorrespondentOfUptoSaid : Prop := fnExactCorrespondentOfUptoRow.holds Try.pinned (OpenSpec.upto fnExactCorrespondentOfSpec)

/-- 'laws.FnExactCommonVariables', WHERE WHAT IT READS IS OF BULK AT MOST 1048576: true; the input reads as it did. -/
def fnExactCommonVariablesUptoRow : OpenClaim := { program := "ytkcgbkijlnpoiaa", sum := "48dbf34de7e518a860759bdc10826057595c74281e74208fc213357d93cf1616", func := "loop.example/g01089/laws.FnExactCommonVariables", spec := "fnExactCommonVariables", unfollowed := true, recurses := true, apart := false, narrowed := true }
def FnExactCommonVariablesUptoSaid : Prop := fnExactCommonVariablesUptoRow.holds Try.pinned (OpenSpec.upto fnExactCommonVariablesSpec)

end Rows
end Go.Proofs.Ytkcgbkijlnpoiaa
