/-
  No cell of these rows narrows 'for every input' (looked for: loops, veiled, ifaces, maps, wideKeys, modest, calm, conditions, laid).
  DERIVED. THE GIVEN ROWS OF THIS SEAT. 3 by the template 'for every input the law returns true; each argument reads behind the call as it read before'; 0 by the template 'total and deterministic' (their statements: YtmjignphadnadaaTotals.lean).
  GIVEN WITH THE SEED: the statements are not yours to turn. If you find one false, say at which input.
  Laid BY PROGRAM, IN A SANDBOX (cutbox-rows.mjs): the forced cells as the released guide's own fill.sh prints them over the translation e7deae89649b8272… (all of the seat's roots in one cut). By AI agents, Wed Nov 11 2026. No macro, syntax, notation, axiom, sorry.
-/
import Derived.Test.YtmjignphadnadaaChecked
import GoSem.Claim
import GoSem.ClaimJoined
import GoSem.ClaimMapViews
import Derived.JoinedTies
import Derived.KernelRfl
namespace Go.Proofs.Ytmjignphadnadaa
/- THE CELL 'sum', in the pinned program and in every row, IS THE sha256 OF THE DUMP (.gsa) THAT YtmjignphadnadaaProg.lean LOADS. Nothing in Lean hashes anything: it is a label: what it is worth is what the hold of that sum in a sandbox is worth. -/
noncomputable def Try.pinned : Pinned := { name := "ytmjignphadnadaa", sum := "e7deae89649b82720401832e449370f2d17fde2bc38e87ea867c327de8fbe741", checked := Try.checked }
namespace Rows
def none {H : Type} : Left H := { results := [], args := [] }

/-- 'brindlewoodlaw8.TablesLinesMatchSpec': WHATEVER THE INPUT: true; the input reads as it did. -/
def tablesLinesMatchSpecSpec : ChangeSpec := { name := "tablesLinesMatchSpec", fn := fun _ => fun
  | [d1, d2] => { results := [.lit (.bool true)], args := [d1, d2] }
  | _ => none }
def tablesLinesMatchSpecRow : OpenClaim := { program := "ytmjignphadnadaa", sum := "e7deae89649b82720401832e449370f2d17fde2bc38e87ea867c327de8fbe741", func := "brindlewood/brindlewoodlaw8.TablesLinesMatchSpec", spec := "tablesLinesMatchSpec", unfollowed := true, recurses := true, apart := false }
def TablesLinesMatchSpecSaid : Prop := tablesLinesMatchSpecRow.holds Try.pinned (OpenSpec.ofChange tablesLinesMatchSpecSpec)

/-- ITS FALSE NEIGHBOUR: 'it returns false'. Refute it at one input. -/
def tablesLinesMatchSpecWrong : ChangeSpec := { name := "tablesLinesMatchSpec", fn := fun _ => fun
  | [d1, d2] => { results := [.lit (.bool false)], args := [d1, d2] }
  | _ => none }
def TablesLinesMatchSpecWrongFalsely : Prop := tablesLinesMatchSpecRow.holds Try.pinned (OpenSpec.ofChange tablesLinesMatchSpecWrong)

/-- 'brindlewoodlaw8.TablesUnpackMatchesSpec': WHATEVER THE INPUT: true; the input reads as it did. -/
def tablesUnpackMatchesSpecSpec : ChangeSpec := { name := "tablesUnpackMatchesSpec", fn := fun _ => fun
  | [d] => { results := [.lit (.bool true)], args := [d] }
  | _ => none }
def tablesUnpackMatchesSpecRow : OpenClaim := { program := "ytmjignphadnadaa", sum := "e7deae89649b82720401832e449370f2d17fde2bc38e87ea867c327de8fbe741", func := "brindlewood/brindlewoodlaw8.TablesUnpackMatchesSpec", spec := "tablesUnpackMatchesSpec", apart := false }
def TablesUnpackMatchesSpecSaid : Prop := tablesUnpackMatchesSpecRow.holds Try.pinned (OpenSpec.ofChange tablesUnpackMatchesSpecSpec)

/-- ITS FALSE NEIGHBOUR: 'it returns false'. Refute it at one input. -/
def tablesUnpackMatchesSpecWrong : ChangeSpec := { name := "tablesUnpackMatchesSpec", fn := fun _ => fun
  | [d] => { results := [.lit (.bool false)], args := [d] }
  | _ => none }
def TablesUnpackMatchesSpecWrongFalsely : Prop := tablesUnpackMatchesSpecRow.holds Try.pinned (OpenSpec.ofChange tablesUnpackMatchesSpecWrong)

/-- 'brindlewoodlaw8.TablesCatchesMatchSpec': WHATEVER THE INPUT: true; the input reads as it did. -/
def tablesCatchesMatchSpecSpec : ChangeSpec := { name := "tablesCatchesMatchSpec", fn := fun _ => fun
  | [d1, d2] => { results := [.lit (.bool true)], args := [d1, d2] }
  | _ => none }
def tablesCatchesMatchSpecRow : OpenClaim := { program := "ytmjignphadnadaa", sum := "e7deae89649b82720401832e449370f2d17fde2bc38e87ea867c327de8fbe741", func := "brindlewood/brindlewoodlaw8.TablesCatchesMatchSpec", spec := "tablesCatchesMatchSpec", unfollowed := true, recurses := true, apart := false }
def TablesCatchesMatchSpecSaid : Prop := tablesCatchesMatchSpecRow.holds Try.pinned (OpenSpec.ofChange tablesCatchesMatchSpecSpec)

/-- ITS FALSE NEIGHBOUR: 'it returns false'. Refute it at one input. -/
def tablesCatchesMatchSpecWrong : ChangeSpec := { name := "tablesCatchesMatchSpec", fn := fun _ => fun
  | [d1, d2] => { results := [.lit (.bool false)], args := [d1, d2] }
  | _ => none }
def TablesCatchesMatchSpecWrongFalsely : Prop := tablesCatchesMatchSpecRow.holds Try.pinned (OpenSpec.ofChange tablesCatchesMatchSpecWrong)

/- THE SECOND FORM. 'bulk': how many values and letters a reading holds, each counted each time it is reached (what is shared counts as often as it is met; a slice's spare places count too). A statement '..UptoSaid' is the law's where the arguments, and the package variables that the reading takes, are together of bulk at most 1048576: NARROWER than '..Said'. Prove '..Said' where nothing that the law and all that it calls make is longer than what came in: it says more and counts as full. Else prove '..UptoSaid'. A law counts once. -/
mutual
def uptoBulk {H : Type} : DataW H → Nat
  | .lit (.string bytes) => bytes.length + 1
  | .lit _ => 1
  | .nil => 1
  | .ptr d => uptoBulk d + 1
  | .slice elems spare => uptoBulkAll elems + uptoBulkAll spare + 1
  | .agg parts => uptoBulkAll parts + 1
  | .iface _ d => uptoBulk d + 1
  | .map entries => uptoBulkEntries entries + 1
  | .held _ => 1
def uptoBulkAll {H : Type} : List (DataW H) → Nat
  | [] => 0
  | d :: r => uptoBulk d + uptoBulkAll r
def uptoBulkEntries {H : Type} : List (Lit × DataW H) → Nat
  | [] => 0
  | x :: r => uptoBulkEntry x + uptoBulkEntries r
def uptoBulkEntry {H : Type} : Lit × DataW H → Nat
  | (.string bytes, d) => bytes.length + uptoBulk d + 1
  | (_, d) => uptoBulk d + 1
 end
def uptoSmall : (H : Type) → List (DataW H) → Bool := fun _ ds => decide (uptoBulkAll ds ≤ 1048576)
def OpenSpec.upto (s : _root_.Go.ChangeSpec) : _root_.Go.OpenSpec := { _root_.Go.OpenSpec.ofChange s with cond := some uptoSmall }

/-- 'brindlewoodlaw8.TablesLinesMatchSpec', WHERE WHAT IT READS IS OF BULK AT MOST 1048576: true; the input reads as it did. -/
def tablesLinesMatchSpecUptoRow : OpenClaim := { program := "ytmjignphadnadaa", sum := "e7deae89649b82720401832e449370f2d17fde2bc38e87ea867c327de8fbe741", func := "brindlewood/brindlewoodlaw8.TablesLinesMatchSpec", spec := "tablesLinesMatchSpec", unfollowed := true, recurses := true, apart := false, narrowed := true }
def TablesLinesMatchSpecUptoSaid : Prop := tablesLinesMatchSpecUptoRow.holds Try.pinned (OpenSpec.upto tablesLinesMatchSpecSpec)

/-- 'brindlewoodlaw8.TablesUnpackMatchesSpec', WHERE WHAT IT READS IS OF BULK AT MOST 1048576: true; the input reads as it did. -/
def tablesUnpackMatchesSpecUptoRow : OpenClaim := { program := "ytmjignphadnadaa", sum := "e7deae89649b82720401832e449370f2d17fde2bc38e87ea867c327de8fbe741", func := "brindlewood/brindlewoodlaw8.TablesUnpackMatchesSpec", spec := "tablesUnpackMatchesSpec", apart := false, narrowed := true }
def TablesUnpackMatchesSpecUptoSaid : Prop := tablesUnpackMatchesSpecUptoRow.holds Try.pinned (OpenSpec.upto tablesUnpackMatchesSpecSpec)

/-- 'brindlewoodlaw8.TablesCatchesMatchSpec', WHERE WHAT IT READS IS OF BULK AT MOST 1048576: true; the input reads as it did. -/
def tablesCatchesMatchSpecUptoRow : OpenClaim := { program := "ytmjignphadnadaa", sum := "e7deae89649b82720401832e449370f2d17fde2bc38e87ea867c327de8fbe741", func := "brindlewood/brindlewoodlaw8.TablesCatchesMatchSpec", spec := "tablesCatchesMatchSpec", unfollowed := true, recurses := true, apart := false, narrowed := true }
def TablesCatchesMatchSpecUptoSaid : Prop := tablesCatchesMatchSpecUptoRow.holds Try.pinned (OpenSpec.upto tablesCatchesMatchSpecSpec)

end Rows
end Go.Proofs.Ytmjignphadnadaa
