/-
  No cell of these rows narrows 'for every input' (looked for: loops, veiled, ifaces, maps, wideKeys, modest, calm, conditions, laid).
  DERIVED. THE GIVEN ROWS OF THIS SEAT. 4 by the template 'for every input the law returns true; each argument reads behind the call as it read before'; 0 by the template 'total and deterministic' (their statements: YtgiegiobigdplaaTotals.lean).
  GIVEN WITH THE SEED: the statements are not yours to turn. If you find one false, say at which input.
  Laid BY PROGRAM, IN A SANDBOX (cutbox-rows.mjs): the forced cells as the released guide's own fill.sh prints them over the translation c0d1f84c6c6c66b9… (all of the seat's roots in one cut). By AI agents, Wed Nov 11 2026. No macro, syntax, notation, axiom, sorry.
-/
import Derived.Test.YtgiegiobigdplaaChecked
import GoSem.Claim
import GoSem.ClaimJoined
import GoSem.ClaimMapViews
import Derived.JoinedTies
import Derived.KernelRfl
namespace Go.Proofs.Ytgiegiobigdplaa
/- THE CELL 'sum', in the pinned program and in every row, IS THE sha256 OF THE DUMP (.gsa) THAT YtgiegiobigdplaaProg.lean LOADS. Nothing in Lean hashes anything: it is a label: what it is worth is what the hold of that sum in a sandbox is worth. -/
noncomputable def Try.pinned : Pinned := { name := "ytgiegiobigdplaa", sum := "c0d1f84c6c6c66b9cb4377d711df8b944c3d15acda98dea1ff772fa579c1df34", checked := Try.checked }
namespace Rows
def none {H : Type} : Left H := { results := [], args := [] }

/-- 'undercroftlaw5.VnetPlays': WHATEVER THE INPUT: true; the input reads as it did. -/
def vnetPlaysSpec : ChangeSpec := { name := "vnetPlays", fn := fun _ => fun
  | [d1, d2, d3, d4] => { results := [.lit (.bool true)], args := [d1, d2, d3, d4] }
  | _ => none }
def vnetPlaysRow : OpenClaim := { program := "ytgiegiobigdplaa", sum := "c0d1f84c6c6c66b9cb4377d711df8b944c3d15acda98dea1ff772fa579c1df34", func := "undercroft/undercroftlaw5.VnetPlays", spec := "vnetPlays", apart := false }
def VnetPlaysSaid : Prop := vnetPlaysRow.holds Try.pinned (OpenSpec.ofChange vnetPlaysSpec)

/-- ITS FALSE NEIGHBOUR: 'it returns false'. Refute it at one input. -/
def vnetPlaysWrong : ChangeSpec := { name := "vnetPlays", fn := fun _ => fun
  | [d1, d2, d3, d4] => { results := [.lit (.bool false)], args := [d1, d2, d3, d4] }
  | _ => none }
def VnetPlaysWrongFalsely : Prop := vnetPlaysRow.holds Try.pinned (OpenSpec.ofChange vnetPlaysWrong)

/-- 'undercroftlaw5.VnetOrder': WHATEVER THE INPUT: true; the input reads as it did. -/
def vnetOrderSpec : ChangeSpec := { name := "vnetOrder", fn := fun _ => fun
  | [d1, d2, d3] => { results := [.lit (.bool true)], args := [d1, d2, d3] }
  | _ => none }
def vnetOrderRow : OpenClaim := { program := "ytgiegiobigdplaa", sum := "c0d1f84c6c6c66b9cb4377d711df8b944c3d15acda98dea1ff772fa579c1df34", func := "undercroft/undercroftlaw5.VnetOrder", spec := "vnetOrder", apart := false }
def VnetOrderSaid : Prop := vnetOrderRow.holds Try.pinned (OpenSpec.ofChange vnetOrderSpec)

/-- ITS FALSE NEIGHBOUR: 'it returns false'. Refute it at one input. -/
def vnetOrderWrong : ChangeSpec := { name := "vnetOrder", fn := fun _ => fun
  | [d1, d2, d3] => { results := [.lit (.bool false)], args := [d1, d2, d3] }
  | _ => none }
def VnetOrderWrongFalsely : Prop := vnetOrderRow.holds Try.pinned (OpenSpec.ofChange vnetOrderWrong)

/-- 'undercroftlaw5.VnetSizes': WHATEVER THE INPUT: true; the input reads as it did. -/
def vnetSizesSpec : ChangeSpec := { name := "vnetSizes", fn := fun _ => fun
  | [d1, d2] => { results := [.lit (.bool true)], args := [d1, d2] }
  | _ => none }
def vnetSizesRow : OpenClaim := { program := "ytgiegiobigdplaa", sum := "c0d1f84c6c6c66b9cb4377d711df8b944c3d15acda98dea1ff772fa579c1df34", func := "undercroft/undercroftlaw5.VnetSizes", spec := "vnetSizes", apart := false }
def VnetSizesSaid : Prop := vnetSizesRow.holds Try.pinned (OpenSpec.ofChange vnetSizesSpec)

/-- ITS FALSE NEIGHBOUR: 'it returns false'. Refute it at one input. -/
def vnetSizesWrong : ChangeSpec := { name := "vnetSizes", fn := fun _ => fun
  | [d1, d2] => { results := [.lit (.bool false)], args := [d1, d2] }
  | _ => none }
def VnetSizesWrongFalsely : Prop := vnetSizesRow.holds Try.pinned (OpenSpec.ofChange vnetSizesWrong)

/-- 'undercroftlaw5.VnetOwn': WHATEVER THE INPUT: true; the input reads as it did. -/
def vnetOwnSpec : ChangeSpec := { name := "vnetOwn", fn := fun _ => fun
  | [d] => { results := [.lit (.bool true)], args := [d] }
  | _ => none }
def vnetOwnRow : OpenClaim := { program := "ytgiegiobigdplaa", sum := "c0d1f84c6c6c66b9cb4377d711df8b944c3d15acda98dea1ff772fa579c1df34", func := "undercroft/undercroftlaw5.VnetOwn", spec := "vnetOwn", apart := false }
def VnetOwnSaid : Prop := vnetOwnRow.holds Try.pinned (OpenSpec.ofChange vnetOwnSpec)

/-- ITS FALSE NEIGHBOUR: 'it returns false'. Refute it at one input. -/
def vnetOwnWrong : ChangeSpec := { name := "vnetOwn", fn := fun _ => fun
  | [d] => { results := [.lit (.bool false)], args := [d] }
  | _ => none }
def VnetOwnWrongFalsely : Prop := vnetOwnRow.holds Try.pinned (OpenSpec.ofChange vnetOwnWrong)

/- THE SECOND FORM. 'bulk': how many values and letters a reading holds, each counted each time it is reached (what is shared counts as often as it is met; a slice's spare places count too). A statement '..UptoSaid' is the law's where the arguments, and the package variables that the reading takes, are together of bulk at most 1048576: NARROWER than '..Said'. Prove '..Said' where nothing that the law and all that it calls make is longer than what came in: it says more and counts as full. Else prove '..UptoSaid'. A law counts once. -/
mutual
def uptoBulk {H : Type} : DataW H → Nat
  | .lit (.string bytes) => bytes.length + 1
  | .lit _ => 1
  | .nil => 1
  | .ptr d => uptoBulk d + 1
  | .slice elems spare => uptoBulkAll elems + uptoBulkAll spare + 1
  | .agg parts => uptoBulkAll parts + 1
  | .iface _ d => uptoBulk d + 1
  | .map entries => uptoBulkEntries entries + 1
  | .held _ => 1
def uptoBulkAll {H : Type} : List (DataW H) → Nat
  | [] => 0
  | d :: r => uptoBulk d + uptoBulkAll r
def uptoBulkEntries {H : Type} : List (Lit × DataW H) → Nat
  | [] => 0
  | x :: r => uptoBulkEntry x + uptoBulkEntries r
def uptoBulkEntry {H : Type} : Lit × DataW H → Nat
  | (.string bytes, d) => bytes.length + uptoBulk d + 1
  | (_, d) => uptoBulk d + 1
 end
def uptoSmall : (H : Type) → List (DataW H) → Bool := fun _ ds => decide (uptoBulkAll ds ≤ 1048576)
def OpenSpec.upto (s : _root_.Go.ChangeSpec) : _root_.Go.OpenSpec := { _root_.Go.OpenSpec.ofChange s with cond := some uptoSmall }

/-- 'undercroftlaw5.VnetPlays', WHERE WHAT IT READS IS OF BULK AT MOST 1048576: true; the input reads as it did. -/
def vnetPlaysUptoRow : OpenClaim := { program := "ytgiegiobigdplaa", sum := "c0d1f84c6c6c66b9cb4377d711df8b944c3d15acda98dea1ff772fa579c1df34", func := "undercroft/undercroftlaw5.VnetPlays", spec := "vnetPlays", apart := false, narrowed := true }
def VnetPlaysUptoSaid : Prop := vnetPlaysUptoRow.holds Try.pinned (OpenSpec.upto vnetPlaysSpec)

/-- 'undercroftlaw5.VnetOrder', WHERE WHAT IT READS IS OF BULK AT MOST 1048576: true; the input reads as it did. -/
def vnetOrderUptoRow : OpenClaim := { program := "ytgiegiobigdplaa", sum := "c0d1f84c6c6c66b9cb4377d711df8b944c3d15acda98dea1ff772fa579c1df34", func := "undercroft/undercroftlaw5.VnetOrder", spec := "vnetOrder", apart := false, narrowed := true }
def VnetOrderUptoSaid : Prop := vnetOrderUptoRow.holds Try.pinned (OpenSpec.upto vnetOrderSpec)

/-- 'undercroftlaw5.VnetSizes', WHERE WHAT IT READS IS OF BULK AT MOST 1048576: true; the input reads as it did. -/
def vnetSizesUptoRow : OpenClaim := { program := "ytgiegiobigdplaa", sum := "c0d1f84c6c6c66b9cb4377d711df8b944c3d15acda98dea1ff772fa579c1df34", func := "undercroft/undercroftlaw5.VnetSizes", spec := "vnetSizes", apart := false, narrowed := true }
def VnetSizesUptoSaid : Prop := vnetSizesUptoRow.holds Try.pinned (OpenSpec.upto vnetSizesSpec)

/-- 'undercroftlaw5.VnetOwn', WHERE WHAT IT READS IS OF BULK AT MOST 1048576: true; the input reads as it did. -/
def vnetOwnUptoRow : OpenClaim := { program := "ytgiegiobigdplaa", sum := "c0d1f84c6c6c66b9cb4377d711df8b944c3d15acda98dea1ff772fa579c1df34", func := "undercroft/undercroftlaw5.VnetOwn", spec := "vnetOwn", apart := false, narrowed := true }
def VnetOwnUptoSaid : Prop := vnetOwnUptoRow.holds Try.pinned (OpenSpec.upto vnetOwnSpec)

end Rows
end Go.Proofs.Ytgiegiobigdplaa
