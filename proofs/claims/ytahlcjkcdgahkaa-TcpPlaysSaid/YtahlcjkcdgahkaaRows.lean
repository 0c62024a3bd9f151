/-
  No cell of these rows narrows 'for every input' (looked for: loops, veiled, ifaces, maps, wideKeys, modest, calm, conditions, laid).
  DERIVED. THE GIVEN ROWS OF THIS SEAT. 10 by the template 'for every input the law returns true; each argument reads behind the call as it read before'; 0 by the template 'total and deterministic' (their statements: YtahlcjkcdgahkaaTotals.lean).
  GIVEN WITH THE SEED: the statements are not yours to turn. If you find one false, say at which input.
  Laid BY PROGRAM, IN A SANDBOX (cutbox-rows.mjs): the forced cells as the released guide's own fill.sh prints them over the translation f0f03eb14a01dc39… (all of the seat's roots in one cut). By AI agents, Wed Nov 11 2026. No macro, syntax, notation, axiom, sorry.
-/
import Derived.Test.YtahlcjkcdgahkaaChecked
import GoSem.Claim
import GoSem.ClaimJoined
import GoSem.ClaimMapViews
import Derived.JoinedTies
import Derived.KernelRfl
namespace Go.Proofs.Ytahlcjkcdgahkaa
/- THE CELL 'sum', in the pinned program and in every row, IS THE sha256 OF THE DUMP (.gsa) THAT YtahlcjkcdgahkaaProg.lean LOADS. Nothing in Lean hashes anything: it is a label: what it is worth is what the hold of that sum in a sandbox is worth. -/
noncomputable def Try.pinned : Pinned := { name := "ytahlcjkcdgahkaa", sum := "f0f03eb14a01dc392063f485df12890ee954da14ae1f2833390c1c71fb5c5b01", checked := Try.checked }
namespace Rows
def none {H : Type} : Left H := { results := [], args := [] }

/-- 'undercroftlaw15.TcpWindow': WHATEVER THE INPUT: true; the input reads as it did. -/
def tcpWindowSpec : ChangeSpec := { name := "tcpWindow", fn := fun _ => fun
  | [d1, d2, d3, d4] => { results := [.lit (.bool true)], args := [d1, d2, d3, d4] }
  | _ => none }
def tcpWindowRow : OpenClaim := { program := "ytahlcjkcdgahkaa", sum := "f0f03eb14a01dc392063f485df12890ee954da14ae1f2833390c1c71fb5c5b01", func := "undercroft/undercroftlaw15.TcpWindow", spec := "tcpWindow", apart := false }
def TcpWindowSaid : Prop := tcpWindowRow.holds Try.pinned (OpenSpec.ofChange tcpWindowSpec)

/-- ITS FALSE NEIGHBOUR: 'it returns false'. Refute it at one input. -/
def tcpWindowWrong : ChangeSpec := { name := "tcpWindow", fn := fun _ => fun
  | [d1, d2, d3, d4] => { results := [.lit (.bool false)], args := [d1, d2, d3, d4] }
  | _ => none }
def TcpWindowWrongFalsely : Prop := tcpWindowRow.holds Try.pinned (OpenSpec.ofChange tcpWindowWrong)

/-- 'undercroftlaw15.TcpLess': WHATEVER THE INPUT: true; the input reads as it did. -/
def tcpLessSpec : ChangeSpec := { name := "tcpLess", fn := fun _ => fun
  | [d1, d2, d3] => { results := [.lit (.bool true)], args := [d1, d2, d3] }
  | _ => none }
def tcpLessRow : OpenClaim := { program := "ytahlcjkcdgahkaa", sum := "f0f03eb14a01dc392063f485df12890ee954da14ae1f2833390c1c71fb5c5b01", func := "undercroft/undercroftlaw15.TcpLess", spec := "tcpLess", apart := false }
def TcpLessSaid : Prop := tcpLessRow.holds Try.pinned (OpenSpec.ofChange tcpLessSpec)

/-- ITS FALSE NEIGHBOUR: 'it returns false'. Refute it at one input. -/
def tcpLessWrong : ChangeSpec := { name := "tcpLess", fn := fun _ => fun
  | [d1, d2, d3] => { results := [.lit (.bool false)], args := [d1, d2, d3] }
  | _ => none }
def TcpLessWrongFalsely : Prop := tcpLessRow.holds Try.pinned (OpenSpec.ofChange tcpLessWrong)

/-- 'undercroftlaw15.TcpComes': WHATEVER THE INPUT: true; the input reads as it did. -/
def tcpComesSpec : ChangeSpec := { name := "tcpComes", fn := fun _ => fun
  | [d1, d2, d3, d4] => { results := [.lit (.bool true)], args := [d1, d2, d3, d4] }
  | _ => none }
def tcpComesRow : OpenClaim := { program := "ytahlcjkcdgahkaa", sum := "f0f03eb14a01dc392063f485df12890ee954da14ae1f2833390c1c71fb5c5b01", func := "undercroft/undercroftlaw15.TcpComes", spec := "tcpComes", apart := false }
def TcpComesSaid : Prop := tcpComesRow.holds Try.pinned (OpenSpec.ofChange tcpComesSpec)

/-- ITS FALSE NEIGHBOUR: 'it returns false'. Refute it at one input. -/
def tcpComesWrong : ChangeSpec := { name := "tcpComes", fn := fun _ => fun
  | [d1, d2, d3, d4] => { results := [.lit (.bool false)], args := [d1, d2, d3, d4] }
  | _ => none }
def TcpComesWrongFalsely : Prop := tcpComesRow.holds Try.pinned (OpenSpec.ofChange tcpComesWrong)

/-- 'undercroftlaw15.TcpResets': WHATEVER THE INPUT: true; the input reads as it did. -/
def tcpResetsSpec : ChangeSpec := { name := "tcpResets", fn := fun _ => fun
  | [d1, d2, d3] => { results := [.lit (.bool true)], args := [d1, d2, d3] }
  | _ => none }
def tcpResetsRow : OpenClaim := { program := "ytahlcjkcdgahkaa", sum := "f0f03eb14a01dc392063f485df12890ee954da14ae1f2833390c1c71fb5c5b01", func := "undercroft/undercroftlaw15.TcpResets", spec := "tcpResets", apart := false }
def TcpResetsSaid : Prop := tcpResetsRow.holds Try.pinned (OpenSpec.ofChange tcpResetsSpec)

/-- ITS FALSE NEIGHBOUR: 'it returns false'. Refute it at one input. -/
def tcpResetsWrong : ChangeSpec := { name := "tcpResets", fn := fun _ => fun
  | [d1, d2, d3] => { results := [.lit (.bool false)], args := [d1, d2, d3] }
  | _ => none }
def TcpResetsWrongFalsely : Prop := tcpResetsRow.holds Try.pinned (OpenSpec.ofChange tcpResetsWrong)

/-- 'undercroftlaw15.TcpGives': WHATEVER THE INPUT: true; the input reads as it did. -/
def tcpGivesSpec : ChangeSpec := { name := "tcpGives", fn := fun _ => fun
  | [d1, d2, d3] => { results := [.lit (.bool true)], args := [d1, d2, d3] }
  | _ => none }
def tcpGivesRow : OpenClaim := { program := "ytahlcjkcdgahkaa", sum := "f0f03eb14a01dc392063f485df12890ee954da14ae1f2833390c1c71fb5c5b01", func := "undercroft/undercroftlaw15.TcpGives", spec := "tcpGives", apart := false }
def TcpGivesSaid : Prop := tcpGivesRow.holds Try.pinned (OpenSpec.ofChange tcpGivesSpec)

/-- ITS FALSE NEIGHBOUR: 'it returns false'. Refute it at one input. -/
def tcpGivesWrong : ChangeSpec := { name := "tcpGives", fn := fun _ => fun
  | [d1, d2, d3] => { results := [.lit (.bool false)], args := [d1, d2, d3] }
  | _ => none }
def TcpGivesWrongFalsely : Prop := tcpGivesRow.holds Try.pinned (OpenSpec.ofChange tcpGivesWrong)

/-- 'undercroftlaw15.TcpPlays': WHATEVER THE INPUT: true; the input reads as it did. -/
def tcpPlaysSpec : ChangeSpec := { name := "tcpPlays", fn := fun _ => fun
  | [d1, d2, d3] => { results := [.lit (.bool true)], args := [d1, d2, d3] }
  | _ => none }
def tcpPlaysRow : OpenClaim := { program := "ytahlcjkcdgahkaa", sum := "f0f03eb14a01dc392063f485df12890ee954da14ae1f2833390c1c71fb5c5b01", func := "undercroft/undercroftlaw15.TcpPlays", spec := "tcpPlays", apart := false }
def TcpPlaysSaid : Prop := tcpPlaysRow.holds Try.pinned (OpenSpec.ofChange tcpPlaysSpec)

/-- ITS FALSE NEIGHBOUR: 'it returns false'. Refute it at one input. -/
def tcpPlaysWrong : ChangeSpec := { name := "tcpPlays", fn := fun _ => fun
  | [d1, d2, d3] => { results := [.lit (.bool false)], args := [d1, d2, d3] }
  | _ => none }
def TcpPlaysWrongFalsely : Prop := tcpPlaysRow.holds Try.pinned (OpenSpec.ofChange tcpPlaysWrong)

/-- 'undercroftlaw15.TcpGoes': WHATEVER THE INPUT: true; the input reads as it did. -/
def tcpGoesSpec : ChangeSpec := { name := "tcpGoes", fn := fun _ => fun
  | [d1, d2, d3, d4] => { results := [.lit (.bool true)], args := [d1, d2, d3, d4] }
  | _ => none }
def tcpGoesRow : OpenClaim := { program := "ytahlcjkcdgahkaa", sum := "f0f03eb14a01dc392063f485df12890ee954da14ae1f2833390c1c71fb5c5b01", func := "undercroft/undercroftlaw15.TcpGoes", spec := "tcpGoes", apart := false }
def TcpGoesSaid : Prop := tcpGoesRow.holds Try.pinned (OpenSpec.ofChange tcpGoesSpec)

/-- ITS FALSE NEIGHBOUR: 'it returns false'. Refute it at one input. -/
def tcpGoesWrong : ChangeSpec := { name := "tcpGoes", fn := fun _ => fun
  | [d1, d2, d3, d4] => { results := [.lit (.bool false)], args := [d1, d2, d3, d4] }
  | _ => none }
def TcpGoesWrongFalsely : Prop := tcpGoesRow.holds Try.pinned (OpenSpec.ofChange tcpGoesWrong)

/-- 'undercroftlaw15.TcpWild': WHATEVER THE INPUT: true; the input reads as it did. -/
def tcpWildSpec : ChangeSpec := { name := "tcpWild", fn := fun _ => fun
  | [d1, d2, d3] => { results := [.lit (.bool true)], args := [d1, d2, d3] }
  | _ => none }
def tcpWildRow : OpenClaim := { program := "ytahlcjkcdgahkaa", sum := "f0f03eb14a01dc392063f485df12890ee954da14ae1f2833390c1c71fb5c5b01", func := "undercroft/undercroftlaw15.TcpWild", spec := "tcpWild", apart := false }
def TcpWildSaid : Prop := tcpWildRow.holds Try.pinned (OpenSpec.ofChange tcpWildSpec)

/-- ITS FALSE NEIGHBOUR: 'it returns false'. Refute it at one input. -/
def tcpWildWrong : ChangeSpec := { name := "tcpWild", fn := fun _ => fun
  | [d1, d2, d3] => { results := [.lit (.bool false)], args := [d1, d2, d3] }
  | _ => none }
def TcpWildWrongFalsely : Prop := tcpWildRow.holds Try.pinned (OpenSpec.ofChange tcpWildWrong)

/-- 'undercroftlaw15.TcpBack': WHATEVER THE INPUT: true; the input reads as it did. -/
def tcpBackSpec : ChangeSpec := { name := "tcpBack", fn := fun _ => fun
  | [d1, d2, d3, d4, d5] => { results := [.lit (.bool true)], args := [d1, d2, d3, d4, d5] }
  | _ => none }
def tcpBackRow : OpenClaim := { program := "ytahlcjkcdgahkaa", sum := "f0f03eb14a01dc392063f485df12890ee954da14ae1f2833390c1c71fb5c5b01", func := "undercroft/undercroftlaw15.TcpBack", spec := "tcpBack", apart := false }
def TcpBackSaid : Prop := tcpBackRow.holds Try.pinned (OpenSpec.ofChange tcpBackSpec)

/-- ITS FALSE NEIGHBOUR: 'it returns false'. Refute it at one input. -/
def tcpBackWrong : ChangeSpec := { name := "tcpBack", fn := fun _ => fun
  | [d1, d2, d3, d4, d5] => { results := [.lit (.bool false)], args := [d1, d2, d3, d4, d5] }
  | _ => none }
def TcpBackWrongFalsely : Prop := tcpBackRow.holds Try.pinned (OpenSpec.ofChange tcpBackWrong)

/-- 'undercroftlaw15.TcpSegments': WHATEVER THE INPUT: true; the input reads as it did. -/
def tcpSegmentsSpec : ChangeSpec := { name := "tcpSegments", fn := fun _ => fun
  | [d1, d2, d3, d4, d5, d6] => { results := [.lit (.bool true)], args := [d1, d2, d3, d4, d5, d6] }
  | _ => none }
def tcpSegmentsRow : OpenClaim := { program := "ytahlcjkcdgahkaa", sum := "f0f03eb14a01dc392063f485df12890ee954da14ae1f2833390c1c71fb5c5b01", func := "undercroft/undercroftlaw15.TcpSegments", spec := "tcpSegments", apart := false }
def TcpSegmentsSaid : Prop := tcpSegmentsRow.holds Try.pinned (OpenSpec.ofChange tcpSegmentsSpec)

/-- ITS FALSE NEIGHBOUR: 'it returns false'. Refute it at one input. -/
def tcpSegmentsWrong : ChangeSpec := { name := "tcpSegments", fn := fun _ => fun
  | [d1, d2, d3, d4, d5, d6] => { results := [.lit (.bool false)], args := [d1, d2, d3, d4, d5, d6] }
  | _ => none }
def TcpSegmentsWrongFalsely : Prop := tcpSegmentsRow.holds Try.pinned (OpenSpec.ofChange tcpSegmentsWrong)

/- THE SECOND FORM. 'bulk': how many values and letters a reading holds, each counted each time it is reached (what is shared counts as often as it is met; a slice's spare places count too). A statement '..UptoSaid' is the law's where the arguments, and the package variables that the reading takes, are together of bulk at most 1048576: NARROWER than '..Said'. Prove '..Said' where nothing that the law and all that it calls make is longer than what came in: it says more and counts as full. Else prove '..UptoSaid'. A law counts once. -/
mutual
def uptoBulk {H : Type} : DataW H → Nat
  | .lit (.string bytes) => bytes.length + 1
  | .lit _ => 1
  | .nil => 1
  | .ptr d => uptoBulk d + 1
  | .slice elems spare => uptoBulkAll elems + uptoBulkAll spare + 1
  | .agg parts => uptoBulkAll parts + 1
  | .iface _ d => uptoBulk d + 1
  | .map entries => uptoBulkEntries entries + 1
  | .held _ => 1
def uptoBulkAll {H : Type} : List (DataW H) → Nat
  | [] => 0
  | d :: r => uptoBulk d + uptoBulkAll r
def uptoBulkEntries {H : Type} : List (Lit × DataW H) → Nat
  | [] => 0
  | x :: r => uptoBulkEntry x + uptoBulkEntries r
def uptoBulkEntry {H : Type} : Lit × DataW H → Nat
  | (.string bytes, d) => bytes.length + uptoBulk d + 1
  | (_, d) => uptoBulk d + 1
 end
def uptoSmall : (H : Type) → List (DataW H) → Bool := fun _ ds => decide (uptoBulkAll ds ≤ 1048576)
def OpenSpec.upto (s : _root_.Go.ChangeSpec) : _root_.Go.OpenSpec := { _root_.Go.OpenSpec.ofChange s with cond := some uptoSmall }

/-- 'undercroftlaw15.TcpWindow', WHERE WHAT IT READS IS OF BULK AT MOST 1048576: true; the input reads as it did. -/
def tcpWindowUptoRow : OpenClaim := { program := "ytahlcjkcdgahkaa", sum := "f0f03eb14a01dc392063f485df12890ee954da14ae1f2833390c1c71fb5c5b01", func := "undercroft/undercroftlaw15.TcpWindow", spec := "tcpWindow", apart := false, narrowed := true }
def TcpWindowUptoSaid : Prop := tcpWindowUptoRow.holds Try.pinned (OpenSpec.upto tcpWindowSpec)

/-- 'undercroftlaw15.TcpLess', WHERE WHAT IT READS IS OF BULK AT MOST 1048576: true; the input reads as it did. -/
def tcpLessUptoRow : OpenClaim := { program := "ytahlcjkcdgahkaa", sum := "f0f03eb14a01dc392063f485df12890ee954da14ae1f2833390c1c71fb5c5b01", func := "undercroft/undercroftlaw15.TcpLess", spec := "tcpLess", apart := false, narrowed := true }
def TcpLessUptoSaid : Prop := tcpLessUptoRow.holds Try.pinned (OpenSpec.upto tcpLessSpec)

/-- 'undercroftlaw15.TcpComes', WHERE WHAT IT READS IS OF BULK AT MOST 1048576: true; the input reads as it did. -/
def tcpComesUptoRow : OpenClaim := { program := "ytahlcjkcdgahkaa", sum := "f0f03eb14a01dc392063f485df12890ee954da14ae1f2833390c1c71fb5c5b01", func := "undercroft/undercroftlaw15.TcpComes", spec := "tcpComes", apart := false, narrowed := true }
def TcpComesUptoSaid : Prop := tcpComesUptoRow.holds Try.pinned (OpenSpec.upto tcpComesSpec)

/-- 'undercroftlaw15.TcpResets', WHERE WHAT IT READS IS OF BULK AT MOST 1048576: true; the input reads as it did. -/
def tcpResetsUptoRow : OpenClaim := { program := "ytahlcjkcdgahkaa", sum := "f0f03eb14a01dc392063f485df12890ee954da14ae1f2833390c1c71fb5c5b01", func := "undercroft/undercroftlaw15.TcpResets", spec := "tcpResets", apart := false, narrowed := true }
def TcpResetsUptoSaid : Prop := tcpResetsUptoRow.holds Try.pinned (OpenSpec.upto tcpResetsSpec)

/-- 'undercroftlaw15.TcpGives', WHERE WHAT IT READS IS OF BULK AT MOST 1048576: true; the input reads as it did. -/
def tcpGivesUptoRow : OpenClaim := { program := "ytahlcjkcdgahkaa", sum := "f0f03eb14a01dc392063f485df12890ee954da14ae1f2833390c1c71fb5c5b01", func := "undercroft/undercroftlaw15.TcpGives", spec := "tcpGives", apart := false, narrowed := true }
def TcpGivesUptoSaid : Prop := tcpGivesUptoRow.holds Try.pinned (OpenSpec.upto tcpGivesSpec)

/-- 'undercroftlaw15.TcpPlays', WHERE WHAT IT READS IS OF BULK AT MOST 1048576: true; the input reads as it did. -/
def tcpPlaysUptoRow : OpenClaim := { program := "ytahlcjkcdgahkaa", sum := "f0f03eb14a01dc392063f485df12890ee954da14ae1f2833390c1c71fb5c5b01", func := "undercroft/undercroftlaw15.TcpPlays", spec := "tcpPlays", apart := false, narrowed := true }
def TcpPlaysUptoSaid : Prop := tcpPlaysUptoRow.holds Try.pinned (OpenSpec.upto tcpPlaysSpec)

/-- 'undercroftlaw15.TcpGoes', WHERE WHAT IT READS IS OF BULK AT MOST 1048576: true; the input reads as it did. -/
def tcpGoesUptoRow : OpenClaim := { program := "ytahlcjkcdgahkaa", sum := "f0f03eb14a01dc392063f485df12890ee954da14ae1f2833390c1c71fb5c5b01", func := "undercroft/undercroftlaw15.TcpGoes", spec := "tcpGoes", apart := false, narrowed := true }
def TcpGoesUptoSaid : Prop := tcpGoesUptoRow.holds Try.pinned (OpenSpec.upto tcpGoesSpec)

/-- 'undercroftlaw15.TcpWild', WHERE WHAT IT READS IS OF BULK AT MOST 1048576: true; the input reads as it did. -/
def tcpWildUptoRow : OpenClaim := { program := "ytahlcjkcdgahkaa", sum := "f0f03eb14a01dc392063f485df12890ee954da14ae1f2833390c1c71fb5c5b01", func := "undercroft/undercroftlaw15.TcpWild", spec := "tcpWild", apart := false, narrowed := true }
def TcpWildUptoSaid : Prop := tcpWildUptoRow.holds Try.pinned (OpenSpec.upto tcpWildSpec)

/-- 'undercroftlaw15.TcpBack', WHERE WHAT IT READS IS OF BULK AT MOST 1048576: true; the input reads as it did. -/
def tcpBackUptoRow : OpenClaim := { program := "ytahlcjkcdgahkaa", sum := "f0f03eb14a01dc392063f485df12890ee954da14ae1f2833390c1c71fb5c5b01", func := "undercroft/undercroftlaw15.TcpBack", spec := "tcpBack", apart := false, narrowed := true }
def TcpBackUptoSaid : Prop := tcpBackUptoRow.holds Try.pinned (OpenSpec.upto tcpBackSpec)

/-- 'undercroftlaw15.TcpSegments', WHERE WHAT IT READS IS OF BULK AT MOST 1048576: true; the input reads as it did. -/
def tcpSegmentsUptoRow : OpenClaim := { program := "ytahlcjkcdgahkaa", sum := "f0f03eb14a01dc392063f485df12890ee954da14ae1f2833390c1c71fb5c5b01", func := "undercroft/undercroftlaw15.TcpSegments", spec := "tcpSegments", apart := false, narrowed := true }
def TcpSegmentsUptoSaid : Prop := tcpSegmentsUptoRow.holds Try.pinned (OpenSpec.upto tcpSegmentsSpec)

end Rows
end Go.Proofs.Ytahlcjkcdgahkaa
