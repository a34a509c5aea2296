/-
  No cell of these rows narrows 'for every input' (looked for: loops, veiled, ifaces, maps, wideKeys, modest, calm, conditions, laid).
  DERIVED. THE GIVEN ROWS OF THIS SEAT. 7 by the template 'for every input the law returns true; each argument reads behind the call as it read before'; 0 by the template 'total and deterministic' (their statements: YtagclifmbjaecaaTotals.lean).
  GIVEN WITH THE SEED: the statements are not yours to turn. If you find one false, say at which input.
  Laid BY PROGRAM, IN A SANDBOX (cutbox-rows.mjs): the forced cells as the released guide's own fill.sh prints them over the translation b0591c21fef88191… (all of the seat's roots in one cut). By AI agents, Wed Nov 11 2026. No macro, syntax, notation, axiom, sorry.
-/
import Derived.Test.YtagclifmbjaecaaChecked
import GoSem.Claim
import GoSem.ClaimJoined
import GoSem.ClaimMapViews
import Derived.JoinedTies
import Derived.KernelRfl
namespace Go.Proofs.Ytagclifmbjaecaa
/- THE CELL 'sum', in the pinned program and in every row, IS THE sha256 OF THE DUMP (.gsa) THAT YtagclifmbjaecaaProg.lean LOADS. Nothing in Lean hashes anything: it is a label: what it is worth is what the hold of that sum in a sandbox is worth. -/
noncomputable def Try.pinned : Pinned := { name := "ytagclifmbjaecaa", sum := "b0591c21fef881914288d36f4a471df79fae429e0cd5c0afb77911789ecd4bb6", checked := Try.checked }
namespace Rows
def none {H : Type} : Left H := { results := [], args := [] }

/-- 'ashlarlaw03.LaySizes': WHATEVER THE INPUT: true; the input reads as it did. -/
def laySizesSpec : ChangeSpec := { name := "laySizes", fn := fun _ => fun
  | [d1, d2] => { results := [.lit (.bool true)], args := [d1, d2] }
  | _ => none }
def laySizesRow : OpenClaim := { program := "ytagclifmbjaecaa", sum := "b0591c21fef881914288d36f4a471df79fae429e0cd5c0afb77911789ecd4bb6", func := "ashlar/ashlarlaw03.LaySizes", spec := "laySizes", apart := false }
def LaySizesSaid : Prop := laySizesRow.holds Try.pinned (OpenSpec.ofChange laySizesSpec)

/-- ITS FALSE NEIGHBOUR: 'it returns false'. Refute it at one input. -/
def laySizesWrong : ChangeSpec := { name := "laySizes", fn := fun _ => fun
  | [d1, d2] => { results := [.lit (.bool false)], args := [d1, d2] }
  | _ => none }
def LaySizesWrongFalsely : Prop := laySizesRow.holds Try.pinned (OpenSpec.ofChange laySizesWrong)

/-- 'ashlarlaw03.LayEach': WHATEVER THE INPUT: true; the input reads as it did. -/
def layEachSpec : ChangeSpec := { name := "layEach", fn := fun _ => fun
  | [d1, d2] => { results := [.lit (.bool true)], args := [d1, d2] }
  | _ => none }
def layEachRow : OpenClaim := { program := "ytagclifmbjaecaa", sum := "b0591c21fef881914288d36f4a471df79fae429e0cd5c0afb77911789ecd4bb6", func := "ashlar/ashlarlaw03.LayEach", spec := "layEach", apart := false }
def LayEachSaid : Prop := layEachRow.holds Try.pinned (OpenSpec.ofChange layEachSpec)

/-- ITS FALSE NEIGHBOUR: 'it returns false'. Refute it at one input. -/
def layEachWrong : ChangeSpec := { name := "layEach", fn := fun _ => fun
  | [d1, d2] => { results := [.lit (.bool false)], args := [d1, d2] }
  | _ => none }
def LayEachWrongFalsely : Prop := layEachRow.holds Try.pinned (OpenSpec.ofChange layEachWrong)

/-- 'ashlarlaw03.LayTurns': WHATEVER THE INPUT: true; the input reads as it did. -/
def layTurnsSpec : ChangeSpec := { name := "layTurns", fn := fun _ => fun
  | [d1, d2] => { results := [.lit (.bool true)], args := [d1, d2] }
  | _ => none }
def layTurnsRow : OpenClaim := { program := "ytagclifmbjaecaa", sum := "b0591c21fef881914288d36f4a471df79fae429e0cd5c0afb77911789ecd4bb6", func := "ashlar/ashlarlaw03.LayTurns", spec := "layTurns", apart := false }
def LayTurnsSaid : Prop := layTurnsRow.holds Try.pinned (OpenSpec.ofChange layTurnsSpec)

/-- ITS FALSE NEIGHBOUR: 'it returns false'. Refute it at one input. -/
def layTurnsWrong : ChangeSpec := { name := "layTurns", fn := fun _ => fun
  | [d1, d2] => { results := [.lit (.bool false)], args := [d1, d2] }
  | _ => none }
def LayTurnsWrongFalsely : Prop := layTurnsRow.holds Try.pinned (OpenSpec.ofChange layTurnsWrong)

/-- 'ashlarlaw03.LayNext': WHATEVER THE INPUT: true; the input reads as it did. -/
def layNextSpec : ChangeSpec := { name := "layNext", fn := fun _ => fun
  | [d1, d2] => { results := [.lit (.bool true)], args := [d1, d2] }
  | _ => none }
def layNextRow : OpenClaim := { program := "ytagclifmbjaecaa", sum := "b0591c21fef881914288d36f4a471df79fae429e0cd5c0afb77911789ecd4bb6", func := "ashlar/ashlarlaw03.LayNext", spec := "layNext", apart := false }
def LayNextSaid : Prop := layNextRow.holds Try.pinned (OpenSpec.ofChange layNextSpec)

/-- ITS FALSE NEIGHBOUR: 'it returns false'. Refute it at one input. -/
def layNextWrong : ChangeSpec := { name := "layNext", fn := fun _ => fun
  | [d1, d2] => { results := [.lit (.bool false)], args := [d1, d2] }
  | _ => none }
def LayNextWrongFalsely : Prop := layNextRow.holds Try.pinned (OpenSpec.ofChange layNextWrong)

/-- 'ashlarlaw03.LayMaps': WHATEVER THE INPUT: true; the input reads as it did. -/
def layMapsSpec : ChangeSpec := { name := "layMaps", fn := fun _ => fun
  | [d1, d2, d3] => { results := [.lit (.bool true)], args := [d1, d2, d3] }
  | _ => none }
def layMapsRow : OpenClaim := { program := "ytagclifmbjaecaa", sum := "b0591c21fef881914288d36f4a471df79fae429e0cd5c0afb77911789ecd4bb6", func := "ashlar/ashlarlaw03.LayMaps", spec := "layMaps", apart := false }
def LayMapsSaid : Prop := layMapsRow.holds Try.pinned (OpenSpec.ofChange layMapsSpec)

/-- ITS FALSE NEIGHBOUR: 'it returns false'. Refute it at one input. -/
def layMapsWrong : ChangeSpec := { name := "layMaps", fn := fun _ => fun
  | [d1, d2, d3] => { results := [.lit (.bool false)], args := [d1, d2, d3] }
  | _ => none }
def LayMapsWrongFalsely : Prop := layMapsRow.holds Try.pinned (OpenSpec.ofChange layMapsWrong)

/-- 'ashlarlaw03.LayBacks': WHATEVER THE INPUT: true; the input reads as it did. -/
def layBacksSpec : ChangeSpec := { name := "layBacks", fn := fun _ => fun
  | [d1, d2, d3] => { results := [.lit (.bool true)], args := [d1, d2, d3] }
  | _ => none }
def layBacksRow : OpenClaim := { program := "ytagclifmbjaecaa", sum := "b0591c21fef881914288d36f4a471df79fae429e0cd5c0afb77911789ecd4bb6", func := "ashlar/ashlarlaw03.LayBacks", spec := "layBacks", apart := false }
def LayBacksSaid : Prop := layBacksRow.holds Try.pinned (OpenSpec.ofChange layBacksSpec)

/-- ITS FALSE NEIGHBOUR: 'it returns false'. Refute it at one input. -/
def layBacksWrong : ChangeSpec := { name := "layBacks", fn := fun _ => fun
  | [d1, d2, d3] => { results := [.lit (.bool false)], args := [d1, d2, d3] }
  | _ => none }
def LayBacksWrongFalsely : Prop := layBacksRow.holds Try.pinned (OpenSpec.ofChange layBacksWrong)

/-- 'ashlarlaw03.LayThere': WHATEVER THE INPUT: true; the input reads as it did. -/
def layThereSpec : ChangeSpec := { name := "layThere", fn := fun _ => fun
  | [d1, d2, d3] => { results := [.lit (.bool true)], args := [d1, d2, d3] }
  | _ => none }
def layThereRow : OpenClaim := { program := "ytagclifmbjaecaa", sum := "b0591c21fef881914288d36f4a471df79fae429e0cd5c0afb77911789ecd4bb6", func := "ashlar/ashlarlaw03.LayThere", spec := "layThere", apart := false }
def LayThereSaid : Prop := layThereRow.holds Try.pinned (OpenSpec.ofChange layThereSpec)

/-- ITS FALSE NEIGHBOUR: 'it returns false'. Refute it at one input. -/
def layThereWrong : ChangeSpec := { name := "layThere", fn := fun _ => fun
  | [d1, d2, d3] => { results := [.lit (.bool false)], args := [d1, d2, d3] }
  | _ => none }
def LayThereWrongFalsely : Prop := layThereRow.holds Try.pinned (OpenSpec.ofChange layThereWrong)

/- THE SECOND FORM. 'bulk': how many values and letters a reading holds, each counted each time it is reached (what is shared counts as often as it is met; a slice's spare places count too). A statement '..UptoSaid' is the law's where the arguments, and the package variables that the reading takes, are together of bulk at most 1048576: NARROWER than '..Said'. Prove '..Said' where nothing that the law and all that it calls make is longer than what came in: it says more and counts as full. Else prove '..UptoSaid'. A law counts once. -/
mutual
def uptoBulk {H : Type} : DataW H → Nat
  | .lit (.string bytes) => bytes.length + 1
  | .lit _ => 1
  | .nil => 1
  | .ptr d => uptoBulk d + 1
  | .slice elems spare => uptoBulkAll elems + uptoBulkAll spare + 1
  | .agg parts => uptoBulkAll parts + 1
  | .iface _ d => uptoBulk d + 1
  | .map entries => uptoBulkEntries entries + 1
  | .held _ => 1
def uptoBulkAll {H : Type} : List (DataW H) → Nat
  | [] => 0
  | d :: r => uptoBulk d + uptoBulkAll r
def uptoBulkEntries {H : Type} : List (Lit × DataW H) → Nat
  | [] => 0
  | x :: r => uptoBulkEntry x + uptoBulkEntries r
def uptoBulkEntry {H : Type} : Lit × DataW H → Nat
  | (.string bytes, d) => bytes.length + uptoBulk d + 1
  | (_, d) => uptoBulk d + 1
 end
def uptoSmall : (H : Type) → List (DataW H) → Bool := fun _ ds => decide (uptoBulkAll ds ≤ 1048576)
def OpenSpec.upto (s : _root_.Go.ChangeSpec) : _root_.Go.OpenSpec := { _root_.Go.OpenSpec.ofChange s with cond := some uptoSmall }

/-- 'ashlarlaw03.LaySizes', WHERE WHAT IT READS IS OF BULK AT MOST 1048576: true; the input reads as it did. -/
def laySizesUptoRow : OpenClaim := { program := "ytagclifmbjaecaa", sum := "b0591c21fef881914288d36f4a471df79fae429e0cd5c0afb77911789ecd4bb6", func := "ashlar/ashlarlaw03.LaySizes", spec := "laySizes", apart := false, narrowed := true }
def LaySizesUptoSaid : Prop := laySizesUptoRow.holds Try.pinned (OpenSpec.upto laySizesSpec)

/-- 'ashlarlaw03.LayEach', WHERE WHAT IT READS IS OF BULK AT MOST 1048576: true; the input reads as it did. -/
def layEachUptoRow : OpenClaim := { program := "ytagclifmbjaecaa", sum := "b0591c21fef881914288d36f4a471df79fae429e0cd5c0afb77911789ecd4bb6", func := "ashlar/ashlarlaw03.LayEach", spec := "layEach", apart := false, narrowed := true }
def LayEachUptoSaid : Prop := layEachUptoRow.holds Try.pinned (OpenSpec.upto layEachSpec)

/-- 'ashlarlaw03.LayTurns', WHERE WHAT IT READS IS OF BULK AT MOST 1048576: true; the input reads as it did. -/
def layTurnsUptoRow : OpenClaim := { program := "ytagclifmbjaecaa", sum := "b0591c21fef881914288d36f4a471df79fae429e0cd5c0afb77911789ecd4bb6", func := "ashlar/ashlarlaw03.LayTurns", spec := "layTurns", apart := false, narrowed := true }
def LayTurnsUptoSaid : Prop := layTurnsUptoRow.holds Try.pinned (OpenSpec.upto layTurnsSpec)

/-- 'ashlarlaw03.LayNext', WHERE WHAT IT READS IS OF BULK AT MOST 1048576: true; the input reads as it did. -/
def layNextUptoRow : OpenClaim := { program := "ytagclifmbjaecaa", sum := "b0591c21fef881914288d36f4a471df79fae429e0cd5c0afb77911789ecd4bb6", func := "ashlar/ashlarlaw03.LayNext", spec := "layNext", apart := false, narrowed := true }
def LayNextUptoSaid : Prop := layNextUptoRow.holds Try.pinned (OpenSpec.upto layNextSpec)

/-- 'ashlarlaw03.LayMaps', WHERE WHAT IT READS IS OF BULK AT MOST 1048576: true; the input reads as it did. -/
def layMapsUptoRow : OpenClaim := { program := "ytagclifmbjaecaa", sum := "b0591c21fef881914288d36f4a471df79fae429e0cd5c0afb77911789ecd4bb6", func := "ashlar/ashlarlaw03.LayMaps", spec := "layMaps", apart := false, narrowed := true }
def LayMapsUptoSaid : Prop := layMapsUptoRow.holds Try.pinned (OpenSpec.upto layMapsSpec)

/-- 'ashlarlaw03.LayBacks', WHERE WHAT IT READS IS OF BULK AT MOST 1048576: true; the input reads as it did. -/
def layBacksUptoRow : OpenClaim := { program := "ytagclifmbjaecaa", sum := "b0591c21fef881914288d36f4a471df79fae429e0cd5c0afb77911789ecd4bb6", func := "ashlar/ashlarlaw03.LayBacks", spec := "layBacks", apart := false, narrowed := true }
def LayBacksUptoSaid : Prop := layBacksUptoRow.holds Try.pinned (OpenSpec.upto layBacksSpec)

/-- 'ashlarlaw03.LayThere', WHERE WHAT IT READS IS OF BULK AT MOST 1048576: true; the input reads as it did. -/
def layThereUptoRow : OpenClaim := { program := "ytagclifmbjaecaa", sum := "b0591c21fef881914288d36f4a471df79fae429e0cd5c0afb77911789ecd4bb6", func := "ashlar/ashlarlaw03.LayThere", spec := "layThere", apart := false, narrowed := true }
def LayThereUptoSaid : Prop := layThereUptoRow.holds Try.pinned (OpenSpec.upto layThereSpec)

end Rows
end Go.Proofs.Ytagclifmbjaecaa
