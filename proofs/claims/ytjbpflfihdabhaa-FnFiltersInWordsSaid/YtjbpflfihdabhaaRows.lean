/-
  No cell of these rows narrows 'for every input' (looked for: loops, veiled, ifaces, maps, wideKeys, modest, calm, conditions, laid).
  DERIVED. THE GIVEN ROWS OF THIS SEAT. 3 by the template 'for every input the law returns true; each argument reads behind the call as it read before'; 0 by the template 'total and deterministic' (their statements: YtjbpflfihdabhaaTotals.lean).
  GIVEN WITH THE SEED: the statements are not yours to turn. If you find one false, say at which input.
  Laid BY PROGRAM, IN A SANDBOX (cutbox-rows.mjs): the forced cells as the released guide's own fill.sh prints them over the translation 59fd76e0560a4801… (all of the seat's roots in one cut). By AI agents, Wed Nov 11 2026. No macro, syntax, notation, axiom, sorry.
-/
import Derived.Test.YtjbpflfihdabhaaChecked
import GoSem.Claim
import GoSem.ClaimJoined
import GoSem.ClaimMapViews
import Derived.JoinedTies
import Derived.KernelRfl
namespace Go.Proofs.Ytjbpflfihdabhaa
/- THE CELL 'sum', in the pinned program and in every row, IS THE sha256 OF THE DUMP (.gsa) THAT YtjbpflfihdabhaaProg.lean LOADS. Nothing in Lean hashes anything: it is a label: what it is worth is what the hold of that sum in a sandbox is worth. -/
noncomputable def Try.pinned : Pinned := { name := "ytjbpflfihdabhaa", sum := "59fd76e0560a480101bb7dfa0749a1db4e1afafd797c8b8f653bddc55bcb0eb7", checked := Try.checked }
namespace Rows
def none {H : Type} : Left H := { results := [], args := [] }

/-- 'laws.FnRatesChanged': WHATEVER THE INPUT: true; the input reads as it did. -/
def fnRatesChangedSpec : ChangeSpec := { name := "fnRatesChanged", fn := fun _ => fun
  | [d1, d2] => { results := [.lit (.bool true)], args := [d1, d2] }
  | _ => none }
def fnRatesChangedRow : OpenClaim := { program := "ytjbpflfihdabhaa", sum := "59fd76e0560a480101bb7dfa0749a1db4e1afafd797c8b8f653bddc55bcb0eb7", func := "loop.example/g01198/laws.FnRatesChanged", spec := "fnRatesChanged", unfollowed := true, recurses := true, apart := false }
def FnRatesChangedSaid : Prop := fnRatesChangedRow.holds Try.pinned (OpenSpec.ofChange fnRatesChangedSpec)

/-- ITS FALSE NEIGHBOUR: 'it returns false'. Refute it at one input. -/
def fnRatesChangedWrong : ChangeSpec := { name := "fnRatesChanged", fn := fun _ => fun
  | [d1, d2] => { results := [.lit (.bool false)], args := [d1, d2] }
  | _ => none }
def FnRatesChangedWrongFalsely : Prop := fnRatesChangedRow.holds Try.pinned (OpenSpec.ofChange fnRatesChangedWrong)

/-- 'laws.FnFiltersInWords': WHATEVER THE INPUT: true; the input reads as it did. -/
def fnFiltersInWordsSpec : ChangeSpec := { name := "fnFiltersInWords", fn := fun _ => fun
  | [d1, d2] => { results := [.lit (.bool true)], args := [d1, d2] }
  | _ => none }
def fnFiltersInWordsRow : OpenClaim := { program := "ytjbpflfihdabhaa", sum := "59fd76e0560a480101bb7dfa0749a1db4e1afafd797c8b8f653bddc55bcb0eb7", func := "loop.example/g01198/laws.FnFiltersInWords", spec := "fnFiltersInWords", unfollowed := true, recurses := true, apart := false }
def FnFiltersInWordsSaid : Prop := fnFiltersInWordsRow.holds Try.pinned (OpenSpec.ofChange fnFiltersInWordsSpec)

/-- ITS FALSE NEIGHBOUR: 'it returns false'. Refute it at one input. -/
def fnFiltersInWordsWrong : ChangeSpec := { name := "fnFiltersInWords", fn := fun _ => fun
  | [d1, d2] => { results := [.lit (.bool false)], args := [d1, d2] }
  | _ => none }
def FnFiltersInWordsWrongFalsely : Prop := fnFiltersInWordsRow.holds Try.pinned (OpenSpec.ofChange fnFiltersInWordsWrong)

/-- 'laws.FnExactChainError': WHATEVER THE INPUT: true; the input reads as it did. -/
def fnExactChainErrorSpec : ChangeSpec := { name := "fnExactChainError", fn := fun _ => fun
  | [d1, d2] => { results := [.lit (.bool true)], args := [d1, d2] }
  | _ => none }
def fnExactChainErrorRow : OpenClaim := { program := "ytjbpflfihdabhaa", sum := "59fd76e0560a480101bb7dfa0749a1db4e1afafd797c8b8f653bddc55bcb0eb7", func := "loop.example/g01198/laws.FnExactChainError", spec := "fnExactChainError", unfollowed := true, recurses := true, apart := false }
def FnExactChainErrorSaid : Prop := fnExactChainErrorRow.holds Try.pinned (OpenSpec.ofChange fnExactChainErrorSpec)

/-- ITS FALSE NEIGHBOUR: 'it returns false'. Refute it at one input. -/
def fnExactChainErrorWrong : ChangeSpec := { name := "fnExactChainError", fn := fun _ => fun
  | [d1, d2] => { results := [.lit (.bool false)], args := [d1, d2] }
  | _ => none }
def FnExactChainErrorWrongFalsely : Prop := fnExactChainErrorRow.holds Try.pinned (OpenSpec.ofChange fnExactChainErrorWrong)

/- THE SECOND FORM. 'bulk': how many values and letters a reading holds, each counted each time it is reached (what is shared counts as often as it is met; a slice's spare places count too). A statement '..UptoSaid' is the law's where the arguments, and the package variables that the reading takes, are together of bulk at most 1048576: NARROWER than '..Said'. Prove '..Said' where nothing that the law and all that it calls make is longer than what came in: it says more and counts as full. Else prove '..UptoSaid'. A law counts once. -/
mutual
def uptoBulk {H : Type} : DataW H → Nat
  | .lit (.string bytes) => bytes.length + 1
  | .lit _ => 1
  | .nil => 1
  | .ptr d => uptoBulk d + 1
  | .slice elems spare => uptoBulkAll elems + uptoBulkAll spare + 1
  | .agg parts => uptoBulkAll parts + 1
  | .iface _ d => uptoBulk d + 1
  | .map entries => uptoBulkEntries entries + 1
  | .held _ => 1
def uptoBulkAll {H : Type} : List (DataW H) → Nat
  | [] => 0
  | d :: r => uptoBulk d + uptoBulkAll r
def uptoBulkEntries {H : Type} : List (Lit × DataW H) → Nat
  | [] => 0
  | x :: r => uptoBulkEntry x + uptoBulkEntries r
def uptoBulkEntry {H : Type} : Lit × DataW H → Nat
  | (.string bytes, d) => bytes.length + uptoBulk d + 1
  | (_, d) => uptoBulk d + 1
 end
def uptoSmall : (H : Type) → List (DataW H) → Bool := fun _ ds => decide (uptoBulkAll ds ≤ 1048576)
def OpenSpec.upto (s : _root_.Go.ChangeSpec) : _root_.Go.OpenSpec := { _root_.Go.OpenSpec.ofChange s with cond := some uptoSmall }

/-- 'laws.FnRatesChanged', WHERE WHAT IT READS IS OF BULK AT MOST 1048576: true; the input reads as it did. -/
def fnRatesChangedUptoRow : OpenClaim := { program := "ytjbpflfihdabhaa", sum := "59fd76e0560a480101bb7dfa0749a1db4e1afafd797c8b8f653bddc55bcb0eb7", func := "loop.example/g01198/laws.FnRatesChanged", spec := "fnRatesChanged", unfollowed := true, recurses := true, apart := false, narrowed := true }
def FnRatesChangedUptoSaid : Prop := fnRatesChangedUptoRow.holds Try.pinned (OpenSpec.upto fnRatesChangedSpec)

/-- 'laws.FnFiltersInWords', WHERE WHAT IT READS IS OF BULK AT MOST 1048576: true; the input reads as it did. -/
def fnFiltersInWordsUptoRow : OpenClaim := { program := "ytjbpflfihdabhaa", sum := "59fd76e0560a480101bb7dfa0749a1db4e1afafd797c8b8f653bddc55bcb0eb7", func := "loop.example/g01198/laws.FnFiltersInWords", spec := "fnFiltersInWords", unfollowed := true, recurses := true, apart := false, narrowed := true }
def FnFiltersInWordsUptoSaid : Prop := fnFiltersInWordsUptoRow.holds Try.pinned (OpenSpec.upto fnFiltersInWordsSpec)

/-- 'laws.FnExactChainError', WHERE WHAT IT READS IS OF BULK AT MOST 1048576: true; the input reads as it did. -/
def fnExactChainErrorUptoRow : OpenClaim := { program := "ytjbpflfihdabhaa", sum := "59fd76e0560a480101bb7dfa0749a1db4e1afafd797c8b8f653bddc55bcb0eb7", func := "loop.example/g01198/laws.FnExactChainError", spec := "fnExactChainError", unfollowed := true, recurses := true, apart := false, narrowed := true }
def FnExactChainErrorUptoSaid : Prop := fnExactChainErrorUptoRow.holds Try.pinned (OpenSpec.upto fnExactChainErrorSpec)

end Rows
end Go.Proofs.Ytjbpflfihdabhaa
