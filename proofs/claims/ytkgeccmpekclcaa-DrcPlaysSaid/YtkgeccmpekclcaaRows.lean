/-
  No cell of these rows narrows 'for every input' (looked for: loops, veiled, ifaces, maps, wideKeys, modest, calm, conditions, laid).
  DERIVED. THE GIVEN ROWS OF THIS SEAT. 3 by the template 'for every input the law returns true; each argument reads behind the call as it read before'; 0 by the template 'total and deterministic' (their statements: YtkgeccmpekclcaaTotals.lean).
  GIVEN WITH THE SEED: the statements are not yours to turn. If you find one false, say at which input.
  Laid BY PROGRAM, IN A SANDBOX (cutbox-rows.mjs): the forced cells as the released guide's own fill.sh prints them over the translation d0bb109ecf948ff4… (all of the seat's roots in one cut). By AI agents, Wed Nov 11 2026. No macro, syntax, notation, axiom, sorry.
-/
import Derived.Test.YtkgeccmpekclcaaChecked
import GoSem.Claim
import GoSem.ClaimJoined
import GoSem.ClaimMapViews
import Derived.JoinedTies
import Derived.KernelRfl
namespace Go.Proofs.Ytkgeccmpekclcaa
/- THE CELL 'sum', in the pinned program and in every row, IS THE sha256 OF THE DUMP (.gsa) THAT YtkgeccmpekclcaaProg.lean LOADS. Nothing in Lean hashes anything: it is a label: what it is worth is what the hold of that sum in a sandbox is worth. -/
noncomputable def Try.pinned : Pinned := { name := "ytkgeccmpekclcaa", sum := "d0bb109ecf948ff402e70df1be785ad16dde30211af46def1a071bcbf0918923", checked := Try.checked }
namespace Rows
def none {H : Type} : Left H := { results := [], args := [] }

/-- 'undercroftlaw18.DrcPlays': WHATEVER THE INPUT: true; the input reads as it did. -/
def drcPlaysSpec : ChangeSpec := { name := "drcPlays", fn := fun _ => fun
  | [d1, d2] => { results := [.lit (.bool true)], args := [d1, d2] }
  | _ => none }
def drcPlaysRow : OpenClaim := { program := "ytkgeccmpekclcaa", sum := "d0bb109ecf948ff402e70df1be785ad16dde30211af46def1a071bcbf0918923", func := "undercroft/undercroftlaw18.DrcPlays", spec := "drcPlays", unfollowed := true, recurses := true, plainKeys := false, apart := false }
def DrcPlaysSaid : Prop := drcPlaysRow.holds Try.pinned (OpenSpec.ofChange drcPlaysSpec)

/-- ITS FALSE NEIGHBOUR: 'it returns false'. Refute it at one input. -/
def drcPlaysWrong : ChangeSpec := { name := "drcPlays", fn := fun _ => fun
  | [d1, d2] => { results := [.lit (.bool false)], args := [d1, d2] }
  | _ => none }
def DrcPlaysWrongFalsely : Prop := drcPlaysRow.holds Try.pinned (OpenSpec.ofChange drcPlaysWrong)

/-- 'undercroftlaw18.DrcOnce': WHATEVER THE INPUT: true; the input reads as it did. -/
def drcOnceSpec : ChangeSpec := { name := "drcOnce", fn := fun _ => fun
  | [d1, d2, d3] => { results := [.lit (.bool true)], args := [d1, d2, d3] }
  | _ => none }
def drcOnceRow : OpenClaim := { program := "ytkgeccmpekclcaa", sum := "d0bb109ecf948ff402e70df1be785ad16dde30211af46def1a071bcbf0918923", func := "undercroft/undercroftlaw18.DrcOnce", spec := "drcOnce", unfollowed := true, recurses := true, plainKeys := false, apart := false }
def DrcOnceSaid : Prop := drcOnceRow.holds Try.pinned (OpenSpec.ofChange drcOnceSpec)

/-- ITS FALSE NEIGHBOUR: 'it returns false'. Refute it at one input. -/
def drcOnceWrong : ChangeSpec := { name := "drcOnce", fn := fun _ => fun
  | [d1, d2, d3] => { results := [.lit (.bool false)], args := [d1, d2, d3] }
  | _ => none }
def DrcOnceWrongFalsely : Prop := drcOnceRow.holds Try.pinned (OpenSpec.ofChange drcOnceWrong)

/-- 'undercroftlaw18.DrcKeys': WHATEVER THE INPUT: true; the input reads as it did. -/
def drcKeysSpec : ChangeSpec := { name := "drcKeys", fn := fun _ => fun
  | [d1, d2, d3, d4, d5] => { results := [.lit (.bool true)], args := [d1, d2, d3, d4, d5] }
  | _ => none }
def drcKeysRow : OpenClaim := { program := "ytkgeccmpekclcaa", sum := "d0bb109ecf948ff402e70df1be785ad16dde30211af46def1a071bcbf0918923", func := "undercroft/undercroftlaw18.DrcKeys", spec := "drcKeys", unfollowed := true, recurses := true, plainKeys := false, apart := false }
def DrcKeysSaid : Prop := drcKeysRow.holds Try.pinned (OpenSpec.ofChange drcKeysSpec)

/-- ITS FALSE NEIGHBOUR: 'it returns false'. Refute it at one input. -/
def drcKeysWrong : ChangeSpec := { name := "drcKeys", fn := fun _ => fun
  | [d1, d2, d3, d4, d5] => { results := [.lit (.bool false)], args := [d1, d2, d3, d4, d5] }
  | _ => none }
def DrcKeysWrongFalsely : Prop := drcKeysRow.holds Try.pinned (OpenSpec.ofChange drcKeysWrong)

/- THE SECOND FORM. 'bulk': how many values and letters a reading holds, each counted each time it is reached (what is shared counts as often as it is met; a slice's spare places count too). A statement '..UptoSaid' is the law's where the arguments, and the package variables that the reading takes, are together of bulk at most 1048576: NARROWER than '..Said'. Prove '..Said' where nothing that the law and all that it calls make is longer than what came in: it says more and counts as full. Else prove '..UptoSaid'. A law counts once. -/
mutual
def uptoBulk {H : Type} : DataW H → Nat
  | .lit (.string bytes) => bytes.length + 1
  | .lit _ => 1
  | .nil => 1
  | .ptr d => uptoBulk d + 1
  | .slice elems spare => uptoBulkAll elems + uptoBulkAll spare + 1
  | .agg parts => uptoBulkAll parts + 1
  | .iface _ d => uptoBulk d + 1
  | .map entries => uptoBulkEntries entries + 1
  | .held _ => 1
def uptoBulkAll {H : Type} : List (DataW H) → Nat
  | [] => 0
  | d :: r => uptoBulk d + uptoBulkAll r
def uptoBulkEntries {H : Type} : List (Lit × DataW H) → Nat
  | [] => 0
  | x :: r => uptoBulkEntry x + uptoBulkEntries r
def uptoBulkEntry {H : Type} : Lit × DataW H → Nat
  | (.string bytes, d) => bytes.length + uptoBulk d + 1
  | (_, d) => uptoBulk d + 1
 end
def uptoSmall : (H : Type) → List (DataW H) → Bool := fun _ ds => decide (uptoBulkAll ds ≤ 1048576)
def OpenSpec.upto (s : _root_.Go.ChangeSpec) : _root_.Go.OpenSpec := { _root_.Go.OpenSpec.ofChange s with cond := some uptoSmall }

/-- 'undercroftlaw18.DrcPlays', WHERE WHAT IT READS IS OF BULK AT MOST 1048576: true; the input reads as it did. -/
def drcPlaysUptoRow : OpenClaim := { program := "ytkgeccmpekclcaa", sum := "d0bb109ecf948ff402e70df1be785ad16dde30211af46def1a071bcbf0918923", func := "undercroft/undercroftlaw18.DrcPlays", spec := "drcPlays", unfollowed := true, recurses := true, plainKeys := false, apart := false, narrowed := true }
def DrcPlaysUptoSaid : Prop := drcPlaysUptoRow.holds Try.pinned (OpenSpec.upto drcPlaysSpec)

/-- 'undercroftlaw18.DrcOnce', WHERE WHAT IT READS IS OF BULK AT MOST 1048576: true; the input reads as it did. -/
def drcOnceUptoRow : OpenClaim := { program := "ytkgeccmpekclcaa", sum := "d0bb109ecf948ff402e70df1be785ad16dde30211af46def1a071bcbf0918923", func := "undercroft/undercroftlaw18.DrcOnce", spec := "drcOnce", unfollowed := true, recurses := true, plainKeys := false, apart := false, narrowed := true }
def DrcOnceUptoSaid : Prop := drcOnceUptoRow.holds Try.pinned (OpenSpec.upto drcOnceSpec)

/-- 'undercroftlaw18.DrcKeys', WHERE WHAT IT READS IS OF BULK AT MOST 1048576: true; the input reads as it did. -/
def drcKeysUptoRow : OpenClaim := { program := "ytkgeccmpekclcaa", sum := "d0bb109ecf948ff402e70df1be785ad16dde30211af46def1a071bcbf0918923", func := "undercroft/undercroftlaw18.DrcKeys", spec := "drcKeys", unfollowed := true, recurses := true, plainKeys := false, apart := false, narrowed := true }
def DrcKeysUptoSaid : Prop := drcKeysUptoRow.holds Try.pinned (OpenSpec.upto drcKeysSpec)

end Rows
end Go.Proofs.Ytkgeccmpekclcaa
