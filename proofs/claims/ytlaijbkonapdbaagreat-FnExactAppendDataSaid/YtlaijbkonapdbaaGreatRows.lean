/-
  No cell of these rows narrows 'for every input' (looked for: loops, veiled, ifaces, maps, wideKeys, modest, calm, conditions, laid).
  DERIVED. THE GIVEN ROWS OF THIS SEAT. 2 by the template 'for every input the law returns true; each argument reads behind the call as it read before'; 0 by the template 'total and deterministic' (their statements: YtlaijbkonapdbaaGreatTotals.lean).
  GIVEN WITH THE SEED: the statements are not yours to turn. If you find one false, say at which input.
  Laid BY PROGRAM, IN A SANDBOX (cutbox-rows.mjs): the forced cells as the released guide's own fill.sh prints them over the translation 455461266568e30d… (all of the seat's roots in one cut). By AI agents, Wed Nov 11 2026. No macro, syntax, notation, axiom, sorry.
-/
import Derived.Test.YtlaijbkonapdbaaGreatChecked
import GoSem.Claim
import GoSem.ClaimJoined
import GoSem.ClaimMapViews
import Derived.JoinedTies
import Derived.KernelRfl
namespace Go.Proofs.YtlaijbkonapdbaaGreat
/- THE CELL 'sum', in the pinned program and in every row, IS THE sha256 OF THE DUMP (.gsa) THAT YtlaijbkonapdbaaGreatProg.lean LOADS. Nothing in Lean hashes anything: it is a label: what it is worth is what the hold of that sum in a sandbox is worth. -/
noncomputable def Tryz.pinned : Pinned := { name := "ytlaijbkonapdbaagreat", sum := "455461266568e30d4605238ed34407d419734e002aa418258be89fd53dbbcefc", checked := Tryz.checked }
namespace Rows
def none {H : Type} : Left H := { results := [], args := [] }

/-- 'laws.FnExactAppendData': WHATEVER THE INPUT: true; the input reads as it did. -/
def fnExactAppendDataSpec : ChangeSpec := { name := "fnExactAppendData", fn := fun _ => fun
  | [d1, d2, d3, d4, d5] => { results := [.lit (.bool true)], args := [d1, d2, d3, d4, d5] }
  | _ => none }
def fnExactAppendDataRow : OpenClaim := { program := "ytlaijbkonapdbaagreat", sum := "455461266568e30d4605238ed34407d419734e002aa418258be89fd53dbbcefc", func := "loop.example/soughtstreams/laws.FnExactAppendData", spec := "fnExactAppendData", inPlace := ["internal/abi.NoEscape"], recurses := true, apart := false }
def FnExactAppendDataSaid : Prop := fnExactAppendDataRow.holds Tryz.pinned (OpenSpec.ofChange fnExactAppendDataSpec)

/-- ITS FALSE NEIGHBOUR: 'it returns false'. Refute it at one input. -/
def fnExactAppendDataWrong : ChangeSpec := { name := "fnExactAppendData", fn := fun _ => fun
  | [d1, d2, d3, d4, d5] => { results := [.lit (.bool false)], args := [d1, d2, d3, d4, d5] }
  | _ => none }
def FnExactAppendDataWrongFalsely : Prop := fnExactAppendDataRow.holds Tryz.pinned (OpenSpec.ofChange fnExactAppendDataWrong)

/-- 'laws.FnExactDeleteRange': WHATEVER THE INPUT: true; the input reads as it did. -/
def fnExactDeleteRangeSpec : ChangeSpec := { name := "fnExactDeleteRange", fn := fun _ => fun
  | [d1, d2, d3, d4, d5] => { results := [.lit (.bool true)], args := [d1, d2, d3, d4, d5] }
  | _ => none }
def fnExactDeleteRangeRow : OpenClaim := { program := "ytlaijbkonapdbaagreat", sum := "455461266568e30d4605238ed34407d419734e002aa418258be89fd53dbbcefc", func := "loop.example/soughtstreams/laws.FnExactDeleteRange", spec := "fnExactDeleteRange", inPlace := ["internal/abi.NoEscape"], recurses := true, apart := false }
def FnExactDeleteRangeSaid : Prop := fnExactDeleteRangeRow.holds Tryz.pinned (OpenSpec.ofChange fnExactDeleteRangeSpec)

/-- ITS FALSE NEIGHBOUR: 'it returns false'. Refute it at one input. -/
def fnExactDeleteRangeWrong : ChangeSpec := { name := "fnExactDeleteRange", fn := fun _ => fun
  | [d1, d2, d3, d4, d5] => { results := [.lit (.bool false)], args := [d1, d2, d3, d4, d5] }
  | _ => none }
def FnExactDeleteRangeWrongFalsely : Prop := fnExactDeleteRangeRow.holds Tryz.pinned (OpenSpec.ofChange fnExactDeleteRangeWrong)

/- THE SECOND FORM. 'bulk': how many values and letters a reading holds, each counted each time it is reached (what is shared counts as often as it is met; a slice's spare places count too). A statement '..UptoSaid' is the law's where the arguments, and the package variables that the reading takes, are together of bulk at most 1048576: NARROWER than '..Said'. Prove '..Said' where nothing that the law and all that it calls make is longer than what came in: it says more and counts as full. Else prove '..UptoSaid'. A law counts once. -/
mutual
def uptoBulk {H : Type} : DataW H → Nat
  | .lit (.string bytes) => bytes.length + 1
  | .lit _ => 1
  | .nil => 1
  | .ptr d => uptoBulk d + 1
  | .slice elems spare => uptoBulkAll elems + uptoBulkAll spare + 1
  | .agg parts => uptoBulkAll parts + 1
  | .iface _ d => uptoBulk d + 1
  | .map entries => uptoBulkEntries entries + 1
  | .held _ => 1
def uptoBulkAll {H : Type} : List (DataW H) → Nat
  | [] => 0
  | d :: r => uptoBulk d + uptoBulkAll r
def uptoBulkEntries {H : Type} : List (Lit × DataW H) → Nat
  | [] => 0
  | x :: r => uptoBulkEntry x + uptoBulkEntries r
def uptoBulkEntry {H : Type} : Lit × DataW H → Nat
  | (.string bytes, d) => bytes.length + uptoBulk d + 1
  | (_, d) => uptoBulk d + 1
 end
def uptoSmall : (H : Type) → List (DataW H) → Bool := fun _ ds => decide (uptoBulkAll ds ≤ 1048576)
def OpenSpec.upto (s : _root_.Go.ChangeSpec) : _root_.Go.OpenSpec := { _root_.Go.OpenSpec.ofChange s with cond := some uptoSmall }

/-- 'laws.FnExactAppendData', WHERE WHAT IT READS IS OF BULK AT MOST 1048576: true; the input reads as it did. -/
def fnExactAppendDataUptoRow : OpenClaim := { program := "ytlaijbkonapdbaagreat", sum := "455461266568e30d4605238ed34407d419734e002aa418258be89fd53dbbcefc", func := "loop.example/soughtstreams/laws.FnExactAppendData", spec := "fnExactAppendData", inPlace := ["internal/abi.NoEscape"], recurses := true, apart := false, narrowed := true }
def FnExactAppendDataUptoSaid : Prop := fnExactAppendDataUptoRow.holds Tryz.pinned (OpenSpec.upto fnExactAppendDataSpec)

/-- 'laws.FnExactDeleteRange', WHERE WHAT IT READS IS OF BULK AT MOST 1048576: true; the input reads as it did. -/
def fnExactDeleteRangeUptoRow : OpenClaim := { program := "ytlaijbkonapdbaagreat", sum := "455461266568e30d4605238ed34407d419734e002aa418258be89fd53dbbcefc", func := "loop.example/soughtstreams/laws.FnExactDeleteRange", spec := "fnExactDeleteRange", inPlace := ["internal/abi.NoEscape"], recurses := true, apart := false, narrowed := true }
def FnExactDeleteRangeUptoSaid : Prop := fnExactDeleteRangeUptoRow.holds Tryz.pinned (OpenSpec.upto fnExactDeleteRangeSpec)

end Rows
end Go.Proofs.YtlaijbkonapdbaaGreat
