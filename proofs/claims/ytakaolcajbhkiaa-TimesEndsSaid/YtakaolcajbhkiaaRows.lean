/-
  No cell of these rows narrows 'for every input' (looked for: loops, veiled, ifaces, maps, wideKeys, modest, calm, conditions, laid).
  DERIVED. THE GIVEN ROWS OF THIS SEAT. 5 by the template 'for every input the law returns true; each argument reads behind the call as it read before'; 0 by the template 'total and deterministic' (their statements: YtakaolcajbhkiaaTotals.lean).
  GIVEN WITH THE SEED: the statements are not yours to turn. If you find one false, say at which input.
  Laid BY PROGRAM, IN A SANDBOX (cutbox-rows.mjs): the forced cells as the released guide's own fill.sh prints them over the translation 4c383f872c4015ef… (all of the seat's roots in one cut). By AI agents, Wed Nov 11 2026. No macro, syntax, notation, axiom, sorry.
-/
import Derived.Test.YtakaolcajbhkiaaChecked
import GoSem.Claim
import GoSem.ClaimJoined
import GoSem.ClaimMapViews
import Derived.JoinedTies
import Derived.KernelRfl
namespace Go.Proofs.Ytakaolcajbhkiaa
/- THE CELL 'sum', in the pinned program and in every row, IS THE sha256 OF THE DUMP (.gsa) THAT YtakaolcajbhkiaaProg.lean LOADS. Nothing in Lean hashes anything: it is a label: what it is worth is what the hold of that sum in a sandbox is worth. -/
noncomputable def Try.pinned : Pinned := { name := "ytakaolcajbhkiaa", sum := "4c383f872c4015efc4bd86a719e1e8af133c9d9fa2d6ab7ac5a804809e6789c5", checked := Try.checked }
namespace Rows
def none {H : Type} : Left H := { results := [], args := [] }

/-- 'fathomlaw6.TimesBack': WHATEVER THE INPUT: true; the input reads as it did. -/
def timesBackSpec : ChangeSpec := { name := "timesBack", fn := fun _ => fun
  | [d] => { results := [.lit (.bool true)], args := [d] }
  | _ => none }
def timesBackRow : OpenClaim := { program := "ytakaolcajbhkiaa", sum := "4c383f872c4015efc4bd86a719e1e8af133c9d9fa2d6ab7ac5a804809e6789c5", func := "fathom/fathomlaw6.TimesBack", spec := "timesBack", apart := false }
def TimesBackSaid : Prop := timesBackRow.holds Try.pinned (OpenSpec.ofChange timesBackSpec)

/-- ITS FALSE NEIGHBOUR: 'it returns false'. Refute it at one input. -/
def timesBackWrong : ChangeSpec := { name := "timesBack", fn := fun _ => fun
  | [d] => { results := [.lit (.bool false)], args := [d] }
  | _ => none }
def TimesBackWrongFalsely : Prop := timesBackRow.holds Try.pinned (OpenSpec.ofChange timesBackWrong)

/-- 'fathomlaw6.TimesOne': WHATEVER THE INPUT: true; the input reads as it did. -/
def timesOneSpec : ChangeSpec := { name := "timesOne", fn := fun _ => fun
  | [d] => { results := [.lit (.bool true)], args := [d] }
  | _ => none }
def timesOneRow : OpenClaim := { program := "ytakaolcajbhkiaa", sum := "4c383f872c4015efc4bd86a719e1e8af133c9d9fa2d6ab7ac5a804809e6789c5", func := "fathom/fathomlaw6.TimesOne", spec := "timesOne", apart := false }
def TimesOneSaid : Prop := timesOneRow.holds Try.pinned (OpenSpec.ofChange timesOneSpec)

/-- ITS FALSE NEIGHBOUR: 'it returns false'. Refute it at one input. -/
def timesOneWrong : ChangeSpec := { name := "timesOne", fn := fun _ => fun
  | [d] => { results := [.lit (.bool false)], args := [d] }
  | _ => none }
def TimesOneWrongFalsely : Prop := timesOneRow.holds Try.pinned (OpenSpec.ofChange timesOneWrong)

/-- 'fathomlaw6.TimesSteady': WHATEVER THE INPUT: true; the input reads as it did. -/
def timesSteadySpec : ChangeSpec := { name := "timesSteady", fn := fun _ => fun
  | [d] => { results := [.lit (.bool true)], args := [d] }
  | _ => none }
def timesSteadyRow : OpenClaim := { program := "ytakaolcajbhkiaa", sum := "4c383f872c4015efc4bd86a719e1e8af133c9d9fa2d6ab7ac5a804809e6789c5", func := "fathom/fathomlaw6.TimesSteady", spec := "timesSteady", apart := false }
def TimesSteadySaid : Prop := timesSteadyRow.holds Try.pinned (OpenSpec.ofChange timesSteadySpec)

/-- ITS FALSE NEIGHBOUR: 'it returns false'. Refute it at one input. -/
def timesSteadyWrong : ChangeSpec := { name := "timesSteady", fn := fun _ => fun
  | [d] => { results := [.lit (.bool false)], args := [d] }
  | _ => none }
def TimesSteadyWrongFalsely : Prop := timesSteadyRow.holds Try.pinned (OpenSpec.ofChange timesSteadyWrong)

/-- 'fathomlaw6.TimesEnds': WHATEVER THE INPUT: true; the input reads as it did. -/
def timesEndsSpec : ChangeSpec := { name := "timesEnds", fn := fun _ => fun
  | [] => { results := [.lit (.bool true)], args := [] }
  | _ => none }
def timesEndsRow : OpenClaim := { program := "ytakaolcajbhkiaa", sum := "4c383f872c4015efc4bd86a719e1e8af133c9d9fa2d6ab7ac5a804809e6789c5", func := "fathom/fathomlaw6.TimesEnds", spec := "timesEnds", apart := false }
def TimesEndsSaid : Prop := timesEndsRow.holds Try.pinned (OpenSpec.ofChange timesEndsSpec)

/-- ITS FALSE NEIGHBOUR: 'it returns false'. Refute it at one input. -/
def timesEndsWrong : ChangeSpec := { name := "timesEnds", fn := fun _ => fun
  | [] => { results := [.lit (.bool false)], args := [] }
  | _ => none }
def TimesEndsWrongFalsely : Prop := timesEndsRow.holds Try.pinned (OpenSpec.ofChange timesEndsWrong)

/-- 'fathomlaw6.TimesMoved': WHATEVER THE INPUT: true; the input reads as it did. -/
def timesMovedSpec : ChangeSpec := { name := "timesMoved", fn := fun _ => fun
  | [d] => { results := [.lit (.bool true)], args := [d] }
  | _ => none }
def timesMovedRow : OpenClaim := { program := "ytakaolcajbhkiaa", sum := "4c383f872c4015efc4bd86a719e1e8af133c9d9fa2d6ab7ac5a804809e6789c5", func := "fathom/fathomlaw6.TimesMoved", spec := "timesMoved", apart := false }
def TimesMovedSaid : Prop := timesMovedRow.holds Try.pinned (OpenSpec.ofChange timesMovedSpec)

/-- ITS FALSE NEIGHBOUR: 'it returns false'. Refute it at one input. -/
def timesMovedWrong : ChangeSpec := { name := "timesMoved", fn := fun _ => fun
  | [d] => { results := [.lit (.bool false)], args := [d] }
  | _ => none }
def TimesMovedWrongFalsely : Prop := timesMovedRow.holds Try.pinned (OpenSpec.ofChange timesMovedWrong)

/- THE SECOND FORM. 'bulk': how many values and letters a reading holds, each counted each time it is reached (what is shared counts as often as it is met; a slice's spare places count too). A statement '..UptoSaid' is the law's where the arguments, and the package variables that the reading takes, are together of bulk at most 1048576: NARROWER than '..Said'. Prove '..Said' where nothing that the law and all that it calls make is longer than what came in: it says more and counts as full. Else prove '..UptoSaid'. A law counts once. -/
mutual
def uptoBulk {H : Type} : DataW H → Nat
  | .lit (.string bytes) => bytes.length + 1
  | .lit _ => 1
  | .nil => 1
  | .ptr d => uptoBulk d + 1
  | .slice elems spare => uptoBulkAll elems + uptoBulkAll spare + 1
  | .agg parts => uptoBulkAll parts + 1
  | .iface _ d => uptoBulk d + 1
  | .map entries => uptoBulkEntries entries + 1
  | .held _ => 1
def uptoBulkAll {H : Type} : List (DataW H) → Nat
  | [] => 0
  | d :: r => uptoBulk d + uptoBulkAll r
def uptoBulkEntries {H : Type} : List (Lit × DataW H) → Nat
  | [] => 0
  | x :: r => uptoBulkEntry x + uptoBulkEntries r
def uptoBulkEntry {H : Type} : Lit × DataW H → Nat
  | (.string bytes, d) => bytes.length + uptoBulk d + 1
  | (_, d) => uptoBulk d + 1
 end
def uptoSmall : (H : Type) → List (DataW H) → Bool := fun _ ds => decide (uptoBulkAll ds ≤ 1048576)
def OpenSpec.upto (s : _root_.Go.ChangeSpec) : _root_.Go.OpenSpec := { _root_.Go.OpenSpec.ofChange s with cond := some uptoSmall }

/-- 'fathomlaw6.TimesBack', WHERE WHAT IT READS IS OF BULK AT MOST 1048576: true; the input reads as it did. -/
def timesBackUptoRow : OpenClaim := { program := "ytakaolcajbhkiaa", sum := "4c383f872c4015efc4bd86a719e1e8af133c9d9fa2d6ab7ac5a804809e6789c5", func := "fathom/fathomlaw6.TimesBack", spec := "timesBack", apart := false, narrowed := true }
def TimesBackUptoSaid : Prop := timesBackUptoRow.holds Try.pinned (OpenSpec.upto timesBackSpec)

/-- 'fathomlaw6.TimesOne', WHERE WHAT IT READS IS OF BULK AT MOST 1048576: true; the input reads as it did. -/
def timesOneUptoRow : OpenClaim := { program := "ytakaolcajbhkiaa", sum := "4c383f872c4015efc4bd86a719e1e8af133c9d9fa2d6ab7ac5a804809e6789c5", func := "fathom/fathomlaw6.TimesOne", spec := "timesOne", apart := false, narrowed := true }
def TimesOneUptoSaid : Prop := timesOneUptoRow.holds Try.pinned (OpenSpec.upto timesOneSpec)

/-- 'fathomlaw6.TimesSteady', WHERE WHAT IT READS IS OF BULK AT MOST 1048576: true; the input reads as it did. -/
def timesSteadyUptoRow : OpenClaim := { program := "ytakaolcajbhkiaa", sum := "4c383f872c4015efc4bd86a719e1e8af133c9d9fa2d6ab7ac5a804809e6789c5", func := "fathom/fathomlaw6.TimesSteady", spec := "timesSteady", apart := false, narrowed := true }
def TimesSteadyUptoSaid : Prop := timesSteadyUptoRow.holds Try.pinned (OpenSpec.upto timesSteadySpec)

/-- 'fathomlaw6.TimesEnds', WHERE WHAT IT READS IS OF BULK AT MOST 1048576: true; the input reads as it did. -/
def timesEndsUptoRow : OpenClaim := { program := "ytakaolcajbhkiaa", sum := "4c383f872c4015efc4bd86a719e1e8af133c9d9fa2d6ab7ac5a804809e6789c5", func := "fathom/fathomlaw6.TimesEnds", spec := "timesEnds", apart := false, narrowed := true }
def TimesEndsUptoSaid : Prop := timesEndsUptoRow.holds Try.pinned (OpenSpec.upto timesEndsSpec)

/-- 'fathomlaw6.TimesMoved', WHERE WHAT IT READS IS OF BULK AT MOST 1048576: true; the input reads as it did. -/
def timesMovedUptoRow : OpenClaim := { program := "ytakaolcajbhkiaa", sum := "4c383f872c4015efc4bd86a719e1e8af133c9d9fa2d6ab7ac5a804809e6789c5", func := "fathom/fathomlaw6.TimesMoved", spec := "timesMoved", apart := false, narrowed := true }
def TimesMovedUptoSaid : Prop := timesMovedUptoRow.holds Try.pinned (OpenSpec.upto timesMovedSpec)

end Rows
end Go.Proofs.Ytakaolcajbhkiaa
