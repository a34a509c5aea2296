/-
  No cell of these rows narrows 'for every input' (looked for: loops, veiled, ifaces, maps, wideKeys, modest, calm, conditions, laid).
  DERIVED. THE GIVEN ROWS OF THIS SEAT. 9 by the template 'for every input the law returns true; each argument reads behind the call as it read before'; 0 by the template 'total and deterministic' (their statements: YtemeahbggidbkaaTotals.lean).
  GIVEN WITH THE SEED: the statements are not yours to turn. If you find one false, say at which input.
  Laid BY PROGRAM, IN A SANDBOX (cutbox-rows.mjs): the forced cells as the released guide's own fill.sh prints them over the translation 4d5a3396b12d8e48… (all of the seat's roots in one cut). By AI agents, Wed Nov 11 2026. No macro, syntax, notation, axiom, sorry.
-/
import Derived.Test.YtemeahbggidbkaaChecked
import GoSem.Claim
import GoSem.ClaimJoined
import GoSem.ClaimMapViews
import Derived.JoinedTies
import Derived.KernelRfl
namespace Go.Proofs.Ytemeahbggidbkaa
/- THE CELL 'sum', in the pinned program and in every row, IS THE sha256 OF THE DUMP (.gsa) THAT YtemeahbggidbkaaProg.lean LOADS. Nothing in Lean hashes anything: it is a label: what it is worth is what the hold of that sum in a sandbox is worth. -/
noncomputable def Try.pinned : Pinned := { name := "ytemeahbggidbkaa", sum := "4d5a3396b12d8e48fc02b0c60795d9b33edba05bd8505725612d60702a42fe8c", checked := Try.checked }
namespace Rows
def none {H : Type} : Left H := { results := [], args := [] }

/-- 'ashlarlaw02.RateParts': WHATEVER THE INPUT: true; the input reads as it did. -/
def ratePartsSpec : ChangeSpec := { name := "rateParts", fn := fun _ => fun
  | [d1, d2, d3] => { results := [.lit (.bool true)], args := [d1, d2, d3] }
  | _ => none }
def ratePartsRow : OpenClaim := { program := "ytemeahbggidbkaa", sum := "4d5a3396b12d8e48fc02b0c60795d9b33edba05bd8505725612d60702a42fe8c", func := "ashlar/ashlarlaw02.RateParts", spec := "rateParts", inPlace := ["math.Float64bits"], apart := false }
def RatePartsSaid : Prop := ratePartsRow.holds Try.pinned (OpenSpec.ofChange ratePartsSpec)

/-- ITS FALSE NEIGHBOUR: 'it returns false'. Refute it at one input. -/
def ratePartsWrong : ChangeSpec := { name := "rateParts", fn := fun _ => fun
  | [d1, d2, d3] => { results := [.lit (.bool false)], args := [d1, d2, d3] }
  | _ => none }
def RatePartsWrongFalsely : Prop := ratePartsRow.holds Try.pinned (OpenSpec.ofChange ratePartsWrong)

/-- 'ashlarlaw02.RateSmooths': WHATEVER THE INPUT: true; the input reads as it did. -/
def rateSmoothsSpec : ChangeSpec := { name := "rateSmooths", fn := fun _ => fun
  | [d1, d2, d3] => { results := [.lit (.bool true)], args := [d1, d2, d3] }
  | _ => none }
def rateSmoothsRow : OpenClaim := { program := "ytemeahbggidbkaa", sum := "4d5a3396b12d8e48fc02b0c60795d9b33edba05bd8505725612d60702a42fe8c", func := "ashlar/ashlarlaw02.RateSmooths", spec := "rateSmooths", inPlace := ["math.Float64bits"], apart := false }
def RateSmoothsSaid : Prop := rateSmoothsRow.holds Try.pinned (OpenSpec.ofChange rateSmoothsSpec)

/-- ITS FALSE NEIGHBOUR: 'it returns false'. Refute it at one input. -/
def rateSmoothsWrong : ChangeSpec := { name := "rateSmooths", fn := fun _ => fun
  | [d1, d2, d3] => { results := [.lit (.bool false)], args := [d1, d2, d3] }
  | _ => none }
def RateSmoothsWrongFalsely : Prop := rateSmoothsRow.holds Try.pinned (OpenSpec.ofChange rateSmoothsWrong)

/-- 'ashlarlaw02.RateBetween': WHATEVER THE INPUT: true; the input reads as it did. -/
def rateBetweenSpec : ChangeSpec := { name := "rateBetween", fn := fun _ => fun
  | [d1, d2, d3] => { results := [.lit (.bool true)], args := [d1, d2, d3] }
  | _ => none }
def rateBetweenRow : OpenClaim := { program := "ytemeahbggidbkaa", sum := "4d5a3396b12d8e48fc02b0c60795d9b33edba05bd8505725612d60702a42fe8c", func := "ashlar/ashlarlaw02.RateBetween", spec := "rateBetween", inPlace := ["math.Float64bits"], apart := false }
def RateBetweenSaid : Prop := rateBetweenRow.holds Try.pinned (OpenSpec.ofChange rateBetweenSpec)

/-- ITS FALSE NEIGHBOUR: 'it returns false'. Refute it at one input. -/
def rateBetweenWrong : ChangeSpec := { name := "rateBetween", fn := fun _ => fun
  | [d1, d2, d3] => { results := [.lit (.bool false)], args := [d1, d2, d3] }
  | _ => none }
def RateBetweenWrongFalsely : Prop := rateBetweenRow.holds Try.pinned (OpenSpec.ofChange rateBetweenWrong)

/-- 'ashlarlaw02.RateOrder': WHATEVER THE INPUT: true; the input reads as it did. -/
def rateOrderSpec : ChangeSpec := { name := "rateOrder", fn := fun _ => fun
  | [d1, d2, d3] => { results := [.lit (.bool true)], args := [d1, d2, d3] }
  | _ => none }
def rateOrderRow : OpenClaim := { program := "ytemeahbggidbkaa", sum := "4d5a3396b12d8e48fc02b0c60795d9b33edba05bd8505725612d60702a42fe8c", func := "ashlar/ashlarlaw02.RateOrder", spec := "rateOrder", inPlace := ["math.Float64bits"], apart := false }
def RateOrderSaid : Prop := rateOrderRow.holds Try.pinned (OpenSpec.ofChange rateOrderSpec)

/-- ITS FALSE NEIGHBOUR: 'it returns false'. Refute it at one input. -/
def rateOrderWrong : ChangeSpec := { name := "rateOrder", fn := fun _ => fun
  | [d1, d2, d3] => { results := [.lit (.bool false)], args := [d1, d2, d3] }
  | _ => none }
def RateOrderWrongFalsely : Prop := rateOrderRow.holds Try.pinned (OpenSpec.ofChange rateOrderWrong)

/-- 'ashlarlaw02.RateNumbers': WHATEVER THE INPUT: true; the input reads as it did. -/
def rateNumbersSpec : ChangeSpec := { name := "rateNumbers", fn := fun _ => fun
  | [d1, d2] => { results := [.lit (.bool true)], args := [d1, d2] }
  | _ => none }
def rateNumbersRow : OpenClaim := { program := "ytemeahbggidbkaa", sum := "4d5a3396b12d8e48fc02b0c60795d9b33edba05bd8505725612d60702a42fe8c", func := "ashlar/ashlarlaw02.RateNumbers", spec := "rateNumbers", inPlace := ["math.Float64bits"], apart := false }
def RateNumbersSaid : Prop := rateNumbersRow.holds Try.pinned (OpenSpec.ofChange rateNumbersSpec)

/-- ITS FALSE NEIGHBOUR: 'it returns false'. Refute it at one input. -/
def rateNumbersWrong : ChangeSpec := { name := "rateNumbers", fn := fun _ => fun
  | [d1, d2] => { results := [.lit (.bool false)], args := [d1, d2] }
  | _ => none }
def RateNumbersWrongFalsely : Prop := rateNumbersRow.holds Try.pinned (OpenSpec.ofChange rateNumbersWrong)

/-- 'ashlarlaw02.RateWorst': WHATEVER THE INPUT: true; the input reads as it did. -/
def rateWorstSpec : ChangeSpec := { name := "rateWorst", fn := fun _ => fun
  | [d] => { results := [.lit (.bool true)], args := [d] }
  | _ => none }
def rateWorstRow : OpenClaim := { program := "ytemeahbggidbkaa", sum := "4d5a3396b12d8e48fc02b0c60795d9b33edba05bd8505725612d60702a42fe8c", func := "ashlar/ashlarlaw02.RateWorst", spec := "rateWorst", inPlace := ["math.Float64bits"], apart := false }
def RateWorstSaid : Prop := rateWorstRow.holds Try.pinned (OpenSpec.ofChange rateWorstSpec)

/-- ITS FALSE NEIGHBOUR: 'it returns false'. Refute it at one input. -/
def rateWorstWrong : ChangeSpec := { name := "rateWorst", fn := fun _ => fun
  | [d] => { results := [.lit (.bool false)], args := [d] }
  | _ => none }
def RateWorstWrongFalsely : Prop := rateWorstRow.holds Try.pinned (OpenSpec.ofChange rateWorstWrong)

/-- 'ashlarlaw02.RateSteps': WHATEVER THE INPUT: true; the input reads as it did. -/
def rateStepsSpec : ChangeSpec := { name := "rateSteps", fn := fun _ => fun
  | [d1, d2] => { results := [.lit (.bool true)], args := [d1, d2] }
  | _ => none }
def rateStepsRow : OpenClaim := { program := "ytemeahbggidbkaa", sum := "4d5a3396b12d8e48fc02b0c60795d9b33edba05bd8505725612d60702a42fe8c", func := "ashlar/ashlarlaw02.RateSteps", spec := "rateSteps", inPlace := ["math.Float64bits"], apart := false }
def RateStepsSaid : Prop := rateStepsRow.holds Try.pinned (OpenSpec.ofChange rateStepsSpec)

/-- ITS FALSE NEIGHBOUR: 'it returns false'. Refute it at one input. -/
def rateStepsWrong : ChangeSpec := { name := "rateSteps", fn := fun _ => fun
  | [d1, d2] => { results := [.lit (.bool false)], args := [d1, d2] }
  | _ => none }
def RateStepsWrongFalsely : Prop := rateStepsRow.holds Try.pinned (OpenSpec.ofChange rateStepsWrong)

/-- 'ashlarlaw02.RateRanks': WHATEVER THE INPUT: true; the input reads as it did. -/
def rateRanksSpec : ChangeSpec := { name := "rateRanks", fn := fun _ => fun
  | [d] => { results := [.lit (.bool true)], args := [d] }
  | _ => none }
def rateRanksRow : OpenClaim := { program := "ytemeahbggidbkaa", sum := "4d5a3396b12d8e48fc02b0c60795d9b33edba05bd8505725612d60702a42fe8c", func := "ashlar/ashlarlaw02.RateRanks", spec := "rateRanks", inPlace := ["math.Float64bits"], apart := false }
def RateRanksSaid : Prop := rateRanksRow.holds Try.pinned (OpenSpec.ofChange rateRanksSpec)

/-- ITS FALSE NEIGHBOUR: 'it returns false'. Refute it at one input. -/
def rateRanksWrong : ChangeSpec := { name := "rateRanks", fn := fun _ => fun
  | [d] => { results := [.lit (.bool false)], args := [d] }
  | _ => none }
def RateRanksWrongFalsely : Prop := rateRanksRow.holds Try.pinned (OpenSpec.ofChange rateRanksWrong)

/-- 'ashlarlaw02.RateFirst': WHATEVER THE INPUT: true; the input reads as it did. -/
def rateFirstSpec : ChangeSpec := { name := "rateFirst", fn := fun _ => fun
  | [d] => { results := [.lit (.bool true)], args := [d] }
  | _ => none }
def rateFirstRow : OpenClaim := { program := "ytemeahbggidbkaa", sum := "4d5a3396b12d8e48fc02b0c60795d9b33edba05bd8505725612d60702a42fe8c", func := "ashlar/ashlarlaw02.RateFirst", spec := "rateFirst", inPlace := ["math.Float64bits"], apart := false }
def RateFirstSaid : Prop := rateFirstRow.holds Try.pinned (OpenSpec.ofChange rateFirstSpec)

/-- ITS FALSE NEIGHBOUR: 'it returns false'. Refute it at one input. -/
def rateFirstWrong : ChangeSpec := { name := "rateFirst", fn := fun _ => fun
  | [d] => { results := [.lit (.bool false)], args := [d] }
  | _ => none }
def RateFirstWrongFalsely : Prop := rateFirstRow.holds Try.pinned (OpenSpec.ofChange rateFirstWrong)

/- THE SECOND FORM. 'bulk': how many values and letters a reading holds, each counted each time it is reached (what is shared counts as often as it is met; a slice's spare places count too). A statement '..UptoSaid' is the law's where the arguments, and the package variables that the reading takes, are together of bulk at most 1048576: NARROWER than '..Said'. Prove '..Said' where nothing that the law and all that it calls make is longer than what came in: it says more and counts as full. Else prove '..UptoSaid'. A law counts once. -/
mutual
def uptoBulk {H : Type} : DataW H → Nat
  | .lit (.string bytes) => bytes.length + 1
  | .lit _ => 1
  | .nil => 1
  | .ptr d => uptoBulk d + 1
  | .slice elems spare => uptoBulkAll elems + uptoBulkAll spare + 1
  | .agg parts => uptoBulkAll parts + 1
  | .iface _ d => uptoBulk d + 1
  | .map entries => uptoBulkEntries entries + 1
  | .held _ => 1
def uptoBulkAll {H : Type} : List (DataW H) → Nat
  | [] => 0
  | d :: r => uptoBulk d + uptoBulkAll r
def uptoBulkEntries {H : Type} : List (Lit × DataW H) → Nat
  | [] => 0
  | x :: r => uptoBulkEntry x + uptoBulkEntries r
def uptoBulkEntry {H : Type} : Lit × DataW H → Nat
  | (.string bytes, d) => bytes.length + uptoBulk d + 1
  | (_, d) => uptoBulk d + 1
 end
def uptoSmall : (H : Type) → List (DataW H) → Bool := fun _ ds => decide (uptoBulkAll ds ≤ 1048576)
def OpenSpec.upto (s : _root_.Go.ChangeSpec) : _root_.Go.OpenSpec := { _root_.Go.OpenSpec.ofChange s with cond := some uptoSmall }

/-- 'ashlarlaw02.RateParts', WHERE WHAT IT READS IS OF BULK AT MOST 1048576: true; the input reads as it did. -/
def ratePartsUptoRow : OpenClaim := { program := "ytemeahbggidbkaa", sum := "4d5a3396b12d8e48fc02b0c60795d9b33edba05bd8505725612d60702a42fe8c", func := "ashlar/ashlarlaw02.RateParts", spec := "rateParts", inPlace := ["math.Float64bits"], apart := false, narrowed := true }
def RatePartsUptoSaid : Prop := ratePartsUptoRow.holds Try.pinned (OpenSpec.upto ratePartsSpec)

/-- 'ashlarlaw02.RateSmooths', WHERE WHAT IT READS IS OF BULK AT MOST 1048576: true; the input reads as it did. -/
def rateSmoothsUptoRow : OpenClaim := { program := "ytemeahbggidbkaa", sum := "4d5a3396b12d8e48fc02b0c60795d9b33edba05bd8505725612d60702a42fe8c", func := "ashlar/ashlarlaw02.RateSmooths", spec := "rateSmooths", inPlace := ["math.Float64bits"], apart := false, narrowed := true }
def RateSmoothsUptoSaid : Prop := rateSmoothsUptoRow.holds Try.pinned (OpenSpec.upto rateSmoothsSpec)

/-- 'ashlarlaw02.RateBetween', WHERE WHAT IT READS IS OF BULK AT MOST 1048576: true; the input reads as it did. -/
def rateBetweenUptoRow : OpenClaim := { program := "ytemeahbggidbkaa", sum := "4d5a3396b12d8e48fc02b0c60795d9b33edba05bd8505725612d60702a42fe8c", func := "ashlar/ashlarlaw02.RateBetween", spec := "rateBetween", inPlace := ["math.Float64bits"], apart := false, narrowed := true }
def RateBetweenUptoSaid : Prop := rateBetweenUptoRow.holds Try.pinned (OpenSpec.upto rateBetweenSpec)

/-- 'ashlarlaw02.RateOrder', WHERE WHAT IT READS IS OF BULK AT MOST 1048576: true; the input reads as it did. -/
def rateOrderUptoRow : OpenClaim := { program := "ytemeahbggidbkaa", sum := "4d5a3396b12d8e48fc02b0c60795d9b33edba05bd8505725612d60702a42fe8c", func := "ashlar/ashlarlaw02.RateOrder", spec := "rateOrder", inPlace := ["math.Float64bits"], apart := false, narrowed := true }
def RateOrderUptoSaid : Prop := rateOrderUptoRow.holds Try.pinned (OpenSpec.upto rateOrderSpec)

/-- 'ashlarlaw02.RateNumbers', WHERE WHAT IT READS IS OF BULK AT MOST 1048576: true; the input reads as it did. -/
def rateNumbersUptoRow : OpenClaim := { program := "ytemeahbggidbkaa", sum := "4d5a3396b12d8e48fc02b0c60795d9b33edba05bd8505725612d60702a42fe8c", func := "ashlar/ashlarlaw02.RateNumbers", spec := "rateNumbers", inPlace := ["math.Float64bits"], apart := false, narrowed := true }
def RateNumbersUptoSaid : Prop := rateNumbersUptoRow.holds Try.pinned (OpenSpec.upto rateNumbersSpec)

/-- 'ashlarlaw02.RateWorst', WHERE WHAT IT READS IS OF BULK AT MOST 1048576: true; the input reads as it did. -/
def rateWorstUptoRow : OpenClaim := { program := "ytemeahbggidbkaa", sum := "4d5a3396b12d8e48fc02b0c60795d9b33edba05bd8505725612d60702a42fe8c", func := "ashlar/ashlarlaw02.RateWorst", spec := "rateWorst", inPlace := ["math.Float64bits"], apart := false, narrowed := true }
def RateWorstUptoSaid : Prop := rateWorstUptoRow.holds Try.pinned (OpenSpec.upto rateWorstSpec)

/-- 'ashlarlaw02.RateSteps', WHERE WHAT IT READS IS OF BULK AT MOST 1048576: true; the input reads as it did. -/
def rateStepsUptoRow : OpenClaim := { program := "ytemeahbggidbkaa", sum := "4d5a3396b12d8e48fc02b0c60795d9b33edba05bd8505725612d60702a42fe8c", func := "ashlar/ashlarlaw02.RateSteps", spec := "rateSteps", inPlace := ["math.Float64bits"], apart := false, narrowed := true }
def RateStepsUptoSaid : Prop := rateStepsUptoRow.holds Try.pinned (OpenSpec.upto rateStepsSpec)

/-- 'ashlarlaw02.RateRanks', WHERE WHAT IT READS IS OF BULK AT MOST 1048576: true; the input reads as it did. -/
def rateRanksUptoRow : OpenClaim := { program := "ytemeahbggidbkaa", sum := "4d5a3396b12d8e48fc02b0c60795d9b33edba05bd8505725612d60702a42fe8c", func := "ashlar/ashlarlaw02.RateRanks", spec := "rateRanks", inPlace := ["math.Float64bits"], apart := false, narrowed := true }
def RateRanksUptoSaid : Prop := rateRanksUptoRow.holds Try.pinned (OpenSpec.upto rateRanksSpec)

/-- 'ashlarlaw02.RateFirst', WHERE WHAT IT READS IS OF BULK AT MOST 1048576: true; the input reads as it did. -/
def rateFirstUptoRow : OpenClaim := { program := "ytemeahbggidbkaa", sum := "4d5a3396b12d8e48fc02b0c60795d9b33edba05bd8505725612d60702a42fe8c", func := "ashlar/ashlarlaw02.RateFirst", spec := "rateFirst", inPlace := ["math.Float64bits"], apart := false, narrowed := true }
def RateFirstUptoSaid : Prop := rateFirstUptoRow.holds Try.pinned (OpenSpec.upto rateFirstSpec)

end Rows
end Go.Proofs.Ytemeahbggidbkaa
