/-
  No cell of these rows narrows 'for every input' (looked for: loops, veiled, ifaces, maps, wideKeys, modest, calm, conditions, laid).
  DERIVED. THE GIVEN ROWS OF THIS SEAT. 7 by the template 'for every input the law returns true; each argument reads behind the call as it read before'; 0 by the template 'total and deterministic' (their statements: YtbjiicnagfeciaaTotals.lean).
  GIVEN WITH THE SEED: the statements are not yours to turn. If you find one false, say at which input.
  Laid BY PROGRAM, IN A SANDBOX (cutbox-rows.mjs): the forced cells as the released guide's own fill.sh prints them over the translation ed89e2b953f27890… (all of the seat's roots in one cut). By AI agents, Wed Nov 11 2026. No macro, syntax, notation, axiom, sorry.
-/
import Derived.Test.YtbjiicnagfeciaaChecked
import GoSem.Claim
import GoSem.ClaimJoined
import GoSem.ClaimMapViews
import Derived.JoinedTies
import Derived.KernelRfl
namespace Go.Proofs.Ytbjiicnagfeciaa
/- THE CELL 'sum', in the pinned program and in every row, IS THE sha256 OF THE DUMP (.gsa) THAT YtbjiicnagfeciaaProg.lean LOADS. Nothing in Lean hashes anything: it is a label: what it is worth is what the hold of that sum in a sandbox is worth. -/
noncomputable def Try.pinned : Pinned := { name := "ytbjiicnagfeciaa", sum := "ed89e2b953f27890a21b43532726400ccad39767dbac600604c117670cdf5d8b", checked := Try.checked }
namespace Rows
def none {H : Type} : Left H := { results := [], args := [] }

/-- 'undercroftlaw13.IpCuts': WHATEVER THE INPUT: true; the input reads as it did. -/
def ipCutsSpec : ChangeSpec := { name := "ipCuts", fn := fun _ => fun
  | [d1, d2] => { results := [.lit (.bool true)], args := [d1, d2] }
  | _ => none }
def ipCutsRow : OpenClaim := { program := "ytbjiicnagfeciaa", sum := "ed89e2b953f27890a21b43532726400ccad39767dbac600604c117670cdf5d8b", func := "undercroft/undercroftlaw13.IpCuts", spec := "ipCuts", unfollowed := true, recurses := true, plainKeys := false, apart := false }
def IpCutsSaid : Prop := ipCutsRow.holds Try.pinned (OpenSpec.ofChange ipCutsSpec)

/-- ITS FALSE NEIGHBOUR: 'it returns false'. Refute it at one input. -/
def ipCutsWrong : ChangeSpec := { name := "ipCuts", fn := fun _ => fun
  | [d1, d2] => { results := [.lit (.bool false)], args := [d1, d2] }
  | _ => none }
def IpCutsWrongFalsely : Prop := ipCutsRow.holds Try.pinned (OpenSpec.ofChange ipCutsWrong)

/-- 'undercroftlaw13.IpEchoes': WHATEVER THE INPUT: true; the input reads as it did. -/
def ipEchoesSpec : ChangeSpec := { name := "ipEchoes", fn := fun _ => fun
  | [d1, d2] => { results := [.lit (.bool true)], args := [d1, d2] }
  | _ => none }
def ipEchoesRow : OpenClaim := { program := "ytbjiicnagfeciaa", sum := "ed89e2b953f27890a21b43532726400ccad39767dbac600604c117670cdf5d8b", func := "undercroft/undercroftlaw13.IpEchoes", spec := "ipEchoes", unfollowed := true, recurses := true, plainKeys := false, apart := false }
def IpEchoesSaid : Prop := ipEchoesRow.holds Try.pinned (OpenSpec.ofChange ipEchoesSpec)

/-- ITS FALSE NEIGHBOUR: 'it returns false'. Refute it at one input. -/
def ipEchoesWrong : ChangeSpec := { name := "ipEchoes", fn := fun _ => fun
  | [d1, d2] => { results := [.lit (.bool false)], args := [d1, d2] }
  | _ => none }
def IpEchoesWrongFalsely : Prop := ipEchoesRow.holds Try.pinned (OpenSpec.ofChange ipEchoesWrong)

/-- 'undercroftlaw13.IpWhole': WHATEVER THE INPUT: true; the input reads as it did. -/
def ipWholeSpec : ChangeSpec := { name := "ipWhole", fn := fun _ => fun
  | [d1, d2, d3, d4] => { results := [.lit (.bool true)], args := [d1, d2, d3, d4] }
  | _ => none }
def ipWholeRow : OpenClaim := { program := "ytbjiicnagfeciaa", sum := "ed89e2b953f27890a21b43532726400ccad39767dbac600604c117670cdf5d8b", func := "undercroft/undercroftlaw13.IpWhole", spec := "ipWhole", unfollowed := true, recurses := true, plainKeys := false, apart := false }
def IpWholeSaid : Prop := ipWholeRow.holds Try.pinned (OpenSpec.ofChange ipWholeSpec)

/-- ITS FALSE NEIGHBOUR: 'it returns false'. Refute it at one input. -/
def ipWholeWrong : ChangeSpec := { name := "ipWhole", fn := fun _ => fun
  | [d1, d2, d3, d4] => { results := [.lit (.bool false)], args := [d1, d2, d3, d4] }
  | _ => none }
def IpWholeWrongFalsely : Prop := ipWholeRow.holds Try.pinned (OpenSpec.ofChange ipWholeWrong)

/-- 'undercroftlaw13.IpPackets': WHATEVER THE INPUT: true; the input reads as it did. -/
def ipPacketsSpec : ChangeSpec := { name := "ipPackets", fn := fun _ => fun
  | [d1, d2] => { results := [.lit (.bool true)], args := [d1, d2] }
  | _ => none }
def ipPacketsRow : OpenClaim := { program := "ytbjiicnagfeciaa", sum := "ed89e2b953f27890a21b43532726400ccad39767dbac600604c117670cdf5d8b", func := "undercroft/undercroftlaw13.IpPackets", spec := "ipPackets", unfollowed := true, recurses := true, plainKeys := false, apart := false }
def IpPacketsSaid : Prop := ipPacketsRow.holds Try.pinned (OpenSpec.ofChange ipPacketsSpec)

/-- ITS FALSE NEIGHBOUR: 'it returns false'. Refute it at one input. -/
def ipPacketsWrong : ChangeSpec := { name := "ipPackets", fn := fun _ => fun
  | [d1, d2] => { results := [.lit (.bool false)], args := [d1, d2] }
  | _ => none }
def IpPacketsWrongFalsely : Prop := ipPacketsRow.holds Try.pinned (OpenSpec.ofChange ipPacketsWrong)

/-- 'undercroftlaw13.IpBack': WHATEVER THE INPUT: true; the input reads as it did. -/
def ipBackSpec : ChangeSpec := { name := "ipBack", fn := fun _ => fun
  | [d1, d2, d3, d4] => { results := [.lit (.bool true)], args := [d1, d2, d3, d4] }
  | _ => none }
def ipBackRow : OpenClaim := { program := "ytbjiicnagfeciaa", sum := "ed89e2b953f27890a21b43532726400ccad39767dbac600604c117670cdf5d8b", func := "undercroft/undercroftlaw13.IpBack", spec := "ipBack", unfollowed := true, recurses := true, plainKeys := false, apart := false }
def IpBackSaid : Prop := ipBackRow.holds Try.pinned (OpenSpec.ofChange ipBackSpec)

/-- ITS FALSE NEIGHBOUR: 'it returns false'. Refute it at one input. -/
def ipBackWrong : ChangeSpec := { name := "ipBack", fn := fun _ => fun
  | [d1, d2, d3, d4] => { results := [.lit (.bool false)], args := [d1, d2, d3, d4] }
  | _ => none }
def IpBackWrongFalsely : Prop := ipBackRow.holds Try.pinned (OpenSpec.ofChange ipBackWrong)

/-- 'undercroftlaw13.IpParts': WHATEVER THE INPUT: true; the input reads as it did. -/
def ipPartsSpec : ChangeSpec := { name := "ipParts", fn := fun _ => fun
  | [d] => { results := [.lit (.bool true)], args := [d] }
  | _ => none }
def ipPartsRow : OpenClaim := { program := "ytbjiicnagfeciaa", sum := "ed89e2b953f27890a21b43532726400ccad39767dbac600604c117670cdf5d8b", func := "undercroft/undercroftlaw13.IpParts", spec := "ipParts", unfollowed := true, recurses := true, plainKeys := false, apart := false }
def IpPartsSaid : Prop := ipPartsRow.holds Try.pinned (OpenSpec.ofChange ipPartsSpec)

/-- ITS FALSE NEIGHBOUR: 'it returns false'. Refute it at one input. -/
def ipPartsWrong : ChangeSpec := { name := "ipParts", fn := fun _ => fun
  | [d] => { results := [.lit (.bool false)], args := [d] }
  | _ => none }
def IpPartsWrongFalsely : Prop := ipPartsRow.holds Try.pinned (OpenSpec.ofChange ipPartsWrong)

/-- 'undercroftlaw13.IpBounds': WHATEVER THE INPUT: true; the input reads as it did. -/
def ipBoundsSpec : ChangeSpec := { name := "ipBounds", fn := fun _ => fun
  | [d1, d2] => { results := [.lit (.bool true)], args := [d1, d2] }
  | _ => none }
def ipBoundsRow : OpenClaim := { program := "ytbjiicnagfeciaa", sum := "ed89e2b953f27890a21b43532726400ccad39767dbac600604c117670cdf5d8b", func := "undercroft/undercroftlaw13.IpBounds", spec := "ipBounds", unfollowed := true, recurses := true, plainKeys := false, apart := false }
def IpBoundsSaid : Prop := ipBoundsRow.holds Try.pinned (OpenSpec.ofChange ipBoundsSpec)

/-- ITS FALSE NEIGHBOUR: 'it returns false'. Refute it at one input. -/
def ipBoundsWrong : ChangeSpec := { name := "ipBounds", fn := fun _ => fun
  | [d1, d2] => { results := [.lit (.bool false)], args := [d1, d2] }
  | _ => none }
def IpBoundsWrongFalsely : Prop := ipBoundsRow.holds Try.pinned (OpenSpec.ofChange ipBoundsWrong)

/- THE SECOND FORM. 'bulk': how many values and letters a reading holds, each counted each time it is reached (what is shared counts as often as it is met; a slice's spare places count too). A statement '..UptoSaid' is the law's where the arguments, and the package variables that the reading takes, are together of bulk at most 1048576: NARROWER than '..Said'. Prove '..Said' where nothing that the law and all that it calls make is longer than what came in: it says more and counts as full. Else prove '..UptoSaid'. A law counts once. -/
mutual
def uptoBulk {H : Type} : DataW H → Nat
  | .lit (.string bytes) => bytes.length + 1
  | .lit _ => 1
  | .nil => 1
  | .ptr d => uptoBulk d + 1
  | .slice elems spare => uptoBulkAll elems + uptoBulkAll spare + 1
  | .agg parts => uptoBulkAll parts + 1
  | .iface _ d => uptoBulk d + 1
  | .map entries => uptoBulkEntries entries + 1
  | .held _ => 1
def uptoBulkAll {H : Type} : List (DataW H) → Nat
  | [] => 0
  | d :: r => uptoBulk d + uptoBulkAll r
def uptoBulkEntries {H : Type} : List (Lit × DataW H) → Nat
  | [] => 0
  | x :: r => uptoBulkEntry x + uptoBulkEntries r
def uptoBulkEntry {H : Type} : Lit × DataW H → Nat
  | (.string bytes, d) => bytes.length + uptoBulk d + 1
  | (_, d) => uptoBulk d + 1
 end
def uptoSmall : (H : Type) → List (DataW H) → Bool := fun _ ds => decide (uptoBulkAll ds ≤ 1048576)
def OpenSpec.upto (s : _root_.Go.ChangeSpec) : _root_.Go.OpenSpec := { _root_.Go.OpenSpec.ofChange s with cond := some uptoSmall }

/-- 'undercroftlaw13.IpCuts', WHERE WHAT IT READS IS OF BULK AT MOST 1048576: true; the input reads as it did. -/
def ipCutsUptoRow : OpenClaim := { program := "ytbjiicnagfeciaa", sum := "ed89e2b953f27890a21b43532726400ccad39767dbac600604c117670cdf5d8b", func := "undercroft/undercroftlaw13.IpCuts", spec := "ipCuts", unfollowed := true, recurses := true, plainKeys := false, apart := false, narrowed := true }
def IpCutsUptoSaid : Prop := ipCutsUptoRow.holds Try.pinned (OpenSpec.upto ipCutsSpec)

/-- 'undercroftlaw13.IpEchoes', WHERE WHAT IT READS IS OF BULK AT MOST 1048576: true; the input reads as it did. -/
def ipEchoesUptoRow : OpenClaim := { program := "ytbjiicnagfeciaa", sum := "ed89e2b953f27890a21b43532726400ccad39767dbac600604c117670cdf5d8b", func := "undercroft/undercroftlaw13.IpEchoes", spec := "ipEchoes", unfollowed := true, recurses := true, plainKeys := false, apart := false, narrowed := true }
def IpEchoesUptoSaid : Prop := ipEchoesUptoRow.holds Try.pinned (OpenSpec.upto ipEchoesSpec)

/-- 'undercroftlaw13.IpWhole', WHERE WHAT IT READS IS OF BULK AT MOST 1048576: true; the input reads as it did. -/
def ipWholeUptoRow : OpenClaim := { program := "ytbjiicnagfeciaa", sum := "ed89e2b953f27890a21b43532726400ccad39767dbac600604c117670cdf5d8b", func := "undercroft/undercroftlaw13.IpWhole", spec := "ipWhole", unfollowed := true, recurses := true, plainKeys := false, apart := false, narrowed := true }
def IpWholeUptoSaid : Prop := ipWholeUptoRow.holds Try.pinned (OpenSpec.upto ipWholeSpec)

/-- 'undercroftlaw13.IpPackets', WHERE WHAT IT READS IS OF BULK AT MOST 1048576: true; the input reads as it did. -/
def ipPacketsUptoRow : OpenClaim := { program := "ytbjiicnagfeciaa", sum := "ed89e2b953f27890a21b43532726400ccad39767dbac600604c117670cdf5d8b", func := "undercroft/undercroftlaw13.IpPackets", spec := "ipPackets", unfollowed := true, recurses := true, plainKeys := false, apart := false, narrowed := true }
def IpPacketsUptoSaid : Prop := ipPacketsUptoRow.holds Try.pinned (OpenSpec.upto ipPacketsSpec)

/-- 'undercroftlaw13.IpBack', WHERE WHAT IT READS IS OF BULK AT MOST 1048576: true; the input reads as it did. -/
def ipBackUptoRow : OpenClaim := { program := "ytbjiicnagfeciaa", sum := "ed89e2b953f27890a21b43532726400ccad39767dbac600604c117670cdf5d8b", func := "undercroft/undercroftlaw13.IpBack", spec := "ipBack", unfollowed := true, recurses := true, plainKeys := false, apart := false, narrowed := true }
def IpBackUptoSaid : Prop := ipBackUptoRow.holds Try.pinned (OpenSpec.upto ipBackSpec)

/-- 'undercroftlaw13.IpParts', WHERE WHAT IT READS IS OF BULK AT MOST 1048576: true; the input reads as it did. -/
def ipPartsUptoRow : OpenClaim := { program := "ytbjiicnagfeciaa", sum := "ed89e2b953f27890a21b43532726400ccad39767dbac600604c117670cdf5d8b", func := "undercroft/undercroftlaw13.IpParts", spec := "ipParts", unfollowed := true, recurses := true, plainKeys := false, apart := false, narrowed := true }
def IpPartsUptoSaid : Prop := ipPartsUptoRow.holds Try.pinned (OpenSpec.upto ipPartsSpec)

/-- 'undercroftlaw13.IpBounds', WHERE WHAT IT READS IS OF BULK AT MOST 1048576: true; the input reads as it did. -/
def ipBoundsUptoRow : OpenClaim := { program := "ytbjiicnagfeciaa", sum := "ed89e2b953f27890a21b43532726400ccad39767dbac600604c117670cdf5d8b", func := "undercroft/undercroftlaw13.IpBounds", spec := "ipBounds", unfollowed := true, recurses := true, plainKeys := false, apart := false, narrowed := true }
def IpBoundsUptoSaid : Prop := ipBoundsUptoRow.holds Try.pinned (OpenSpec.upto ipBoundsSpec)

end Rows
end Go.Proofs.Ytbjiicnagfeciaa
