/-
  No cell of these rows narrows 'for every input' (looked for: loops, veiled, ifaces, maps, wideKeys, modest, calm, conditions, laid).
  DERIVED. THE GIVEN ROWS OF THIS SEAT. 4 by the template 'for every input the law returns true; each argument reads behind the call as it read before'; 0 by the template 'total and deterministic' (their statements: YtefpfjdfkecjkaaTotals.lean).
  GIVEN WITH THE SEED: the statements are not yours to turn. If you find one false, say at which input.
  Laid BY PROGRAM, IN A SANDBOX (cutbox-rows.mjs): the forced cells as the released guide's own fill.sh prints them over the translation ff11a9d23f7c5158… (all of the seat's roots in one cut). By AI agents, Wed Nov 11 2026. No macro, syntax, notation, axiom, sorry.
-/
import Derived.Test.YtefpfjdfkecjkaaChecked
import GoSem.Claim
import GoSem.ClaimJoined
import GoSem.ClaimMapViews
import Derived.JoinedTies
import Derived.KernelRfl
namespace Go.Proofs.Ytefpfjdfkecjkaa
/- THE CELL 'sum', in the pinned program and in every row, IS THE sha256 OF THE DUMP (.gsa) THAT YtefpfjdfkecjkaaProg.lean LOADS. Nothing in Lean hashes anything: it is a label: what it is worth is what the hold of that sum in a sandbox is worth. -/
noncomputable def Try.pinned : Pinned := { name := "ytefpfjdfkecjkaa", sum := "ff11a9d23f7c5158e3d96a7e0b4fcc7de9536671a443610d844c41e5a9520d38", checked := Try.checked }
namespace Rows
def none {H : Type} : Left H := { results := [], args := [] }

/-- 'undercroftlaw12.EtherFrames': WHATEVER THE INPUT: true; the input reads as it did. -/
def etherFramesSpec : ChangeSpec := { name := "etherFrames", fn := fun _ => fun
  | [d1, d2] => { results := [.lit (.bool true)], args := [d1, d2] }
  | _ => none }
def etherFramesRow : OpenClaim := { program := "ytefpfjdfkecjkaa", sum := "ff11a9d23f7c5158e3d96a7e0b4fcc7de9536671a443610d844c41e5a9520d38", func := "undercroft/undercroftlaw12.EtherFrames", spec := "etherFrames", unfollowed := true, recurses := true, apart := false }
def EtherFramesSaid : Prop := etherFramesRow.holds Try.pinned (OpenSpec.ofChange etherFramesSpec)

/-- ITS FALSE NEIGHBOUR: 'it returns false'. Refute it at one input. -/
def etherFramesWrong : ChangeSpec := { name := "etherFrames", fn := fun _ => fun
  | [d1, d2] => { results := [.lit (.bool false)], args := [d1, d2] }
  | _ => none }
def EtherFramesWrongFalsely : Prop := etherFramesRow.holds Try.pinned (OpenSpec.ofChange etherFramesWrong)

/-- 'undercroftlaw12.EtherBack': WHATEVER THE INPUT: true; the input reads as it did. -/
def etherBackSpec : ChangeSpec := { name := "etherBack", fn := fun _ => fun
  | [d1, d2] => { results := [.lit (.bool true)], args := [d1, d2] }
  | _ => none }
def etherBackRow : OpenClaim := { program := "ytefpfjdfkecjkaa", sum := "ff11a9d23f7c5158e3d96a7e0b4fcc7de9536671a443610d844c41e5a9520d38", func := "undercroft/undercroftlaw12.EtherBack", spec := "etherBack", unfollowed := true, recurses := true, apart := false }
def EtherBackSaid : Prop := etherBackRow.holds Try.pinned (OpenSpec.ofChange etherBackSpec)

/-- ITS FALSE NEIGHBOUR: 'it returns false'. Refute it at one input. -/
def etherBackWrong : ChangeSpec := { name := "etherBack", fn := fun _ => fun
  | [d1, d2] => { results := [.lit (.bool false)], args := [d1, d2] }
  | _ => none }
def EtherBackWrongFalsely : Prop := etherBackRow.holds Try.pinned (OpenSpec.ofChange etherBackWrong)

/-- 'undercroftlaw12.EtherPeers': WHATEVER THE INPUT: true; the input reads as it did. -/
def etherPeersSpec : ChangeSpec := { name := "etherPeers", fn := fun _ => fun
  | [d1, d2, d3] => { results := [.lit (.bool true)], args := [d1, d2, d3] }
  | _ => none }
def etherPeersRow : OpenClaim := { program := "ytefpfjdfkecjkaa", sum := "ff11a9d23f7c5158e3d96a7e0b4fcc7de9536671a443610d844c41e5a9520d38", func := "undercroft/undercroftlaw12.EtherPeers", spec := "etherPeers", unfollowed := true, recurses := true, apart := false }
def EtherPeersSaid : Prop := etherPeersRow.holds Try.pinned (OpenSpec.ofChange etherPeersSpec)

/-- ITS FALSE NEIGHBOUR: 'it returns false'. Refute it at one input. -/
def etherPeersWrong : ChangeSpec := { name := "etherPeers", fn := fun _ => fun
  | [d1, d2, d3] => { results := [.lit (.bool false)], args := [d1, d2, d3] }
  | _ => none }
def EtherPeersWrongFalsely : Prop := etherPeersRow.holds Try.pinned (OpenSpec.ofChange etherPeersWrong)

/-- 'undercroftlaw12.EtherKnown': WHATEVER THE INPUT: true; the input reads as it did. -/
def etherKnownSpec : ChangeSpec := { name := "etherKnown", fn := fun _ => fun
  | [d] => { results := [.lit (.bool true)], args := [d] }
  | _ => none }
def etherKnownRow : OpenClaim := { program := "ytefpfjdfkecjkaa", sum := "ff11a9d23f7c5158e3d96a7e0b4fcc7de9536671a443610d844c41e5a9520d38", func := "undercroft/undercroftlaw12.EtherKnown", spec := "etherKnown", unfollowed := true, recurses := true, apart := false }
def EtherKnownSaid : Prop := etherKnownRow.holds Try.pinned (OpenSpec.ofChange etherKnownSpec)

/-- ITS FALSE NEIGHBOUR: 'it returns false'. Refute it at one input. -/
def etherKnownWrong : ChangeSpec := { name := "etherKnown", fn := fun _ => fun
  | [d] => { results := [.lit (.bool false)], args := [d] }
  | _ => none }
def EtherKnownWrongFalsely : Prop := etherKnownRow.holds Try.pinned (OpenSpec.ofChange etherKnownWrong)

/- THE SECOND FORM. 'bulk': how many values and letters a reading holds, each counted each time it is reached (what is shared counts as often as it is met; a slice's spare places count too). A statement '..UptoSaid' is the law's where the arguments, and the package variables that the reading takes, are together of bulk at most 1048576: NARROWER than '..Said'. Prove '..Said' where nothing that the law and all that it calls make is longer than what came in: it says more and counts as full. Else prove '..UptoSaid'. A law counts once. -/
mutual
def uptoBulk {H : Type} : DataW H → Nat
  | .lit (.string bytes) => bytes.length + 1
  | .lit _ => 1
  | .nil => 1
  | .ptr d => uptoBulk d + 1
  | .slice elems spare => uptoBulkAll elems + uptoBulkAll spare + 1
  | .agg parts => uptoBulkAll parts + 1
  | .iface _ d => uptoBulk d + 1
  | .map entries => uptoBulkEntries entries + 1
  | .held _ => 1
def uptoBulkAll {H : Type} : List (DataW H) → Nat
  | [] => 0
  | d :: r => uptoBulk d + uptoBulkAll r
def uptoBulkEntries {H : Type} : List (Lit × DataW H) → Nat
  | [] => 0
  | x :: r => uptoBulkEntry x + uptoBulkEntries r
def uptoBulkEntry {H : Type} : Lit × DataW H → Nat
  | (.string bytes, d) => bytes.length + uptoBulk d + 1
  | (_, d) => uptoBulk d + 1
 end
def uptoSmall : (H : Type) → List (DataW H) → Bool := fun _ ds => decide (uptoBulkAll ds ≤ 1048576)
def OpenSpec.upto (s : _root_.Go.ChangeSpec) : _root_.Go.OpenSpec := { _root_.Go.OpenSpec.ofChange s with cond := some uptoSmall }

/-- 'undercroftlaw12.EtherFrames', WHERE WHAT IT READS IS OF BULK AT MOST 1048576: true; the input reads as it did. -/
def etherFramesUptoRow : OpenClaim := { program := "ytefpfjdfkecjkaa", sum := "ff11a9d23f7c5158e3d96a7e0b4fcc7de9536671a443610d844c41e5a9520d38", func := "undercroft/undercroftlaw12.EtherFrames", spec := "etherFrames", unfollowed := true, recurses := true, apart := false, narrowed := true }
def EtherFramesUptoSaid : Prop := etherFramesUptoRow.holds Try.pinned (OpenSpec.upto etherFramesSpec)

/-- 'undercroftlaw12.EtherBack', WHERE WHAT IT READS IS OF BULK AT MOST 1048576: true; the input reads as it did. -/
def etherBackUptoRow : OpenClaim := { program := "ytefpfjdfkecjkaa", sum := "ff11a9d23f7c5158e3d96a7e0b4fcc7de9536671a443610d844c41e5a9520d38", func := "undercroft/undercroftlaw12.EtherBack", spec := "etherBack", unfollowed := true, recurses := true, apart := false, narrowed := true }
def EtherBackUptoSaid : Prop := etherBackUptoRow.holds Try.pinned (OpenSpec.upto etherBackSpec)

/-- 'undercroftlaw12.EtherPeers', WHERE WHAT IT READS IS OF BULK AT MOST 1048576: true; the input reads as it did. -/
def etherPeersUptoRow : OpenClaim := { program := "ytefpfjdfkecjkaa", sum := "ff11a9d23f7c5158e3d96a7e0b4fcc7de9536671a443610d844c41e5a9520d38", func := "undercroft/undercroftlaw12.EtherPeers", spec := "etherPeers", unfollowed := true, recurses := true, apart := false, narrowed := true }
def EtherPeersUptoSaid : Prop := etherPeersUptoRow.holds Try.pinned (OpenSpec.upto etherPeersSpec)

/-- 'undercroftlaw12.EtherKnown', WHERE WHAT IT READS IS OF BULK AT MOST 1048576: true; the input reads as it did. -/
def etherKnownUptoRow : OpenClaim := { program := "ytefpfjdfkecjkaa", sum := "ff11a9d23f7c5158e3d96a7e0b4fcc7de9536671a443610d844c41e5a9520d38", func := "undercroft/undercroftlaw12.EtherKnown", spec := "etherKnown", unfollowed := true, recurses := true, apart := false, narrowed := true }
def EtherKnownUptoSaid : Prop := etherKnownUptoRow.holds Try.pinned (OpenSpec.upto etherKnownSpec)

end Rows
end Go.Proofs.Ytefpfjdfkecjkaa
