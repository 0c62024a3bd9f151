/- What chapter 14 says of datagrams, in plain words. -/
import Derived.Test.YtgiodkjcefcebaaNumSpec
namespace Go.Proofs.Ytgiodkjcefcebaa

def udpHead (src dst n : Nat) : List UInt8 := beBytes 4 src ++ beBytes 4 dst ++ beBytes 2 17 ++ beBytes 2 n
def udpSum (src dst : Nat) (b : List UInt8) : Nat :=
  let s := inet (udpHead src dst b.length ++ b.take 6 ++ [0, 0] ++ b.drop 8)
  if s = 0 then 65535 else s
def u16at (b : List UInt8) (i : Nat) : Nat := beVal ((b.drop i).take 2)
def udpParse (src dst : Nat) (b : List UInt8) : (Nat × Nat × List UInt8) × Int :=
  if b.length < 8 then ((0, 0, []), 11)
  else if u16at b 4 < 8 then ((0, 0, []), 15)
  else if b.length < u16at b 4 then ((0, 0, []), 11)
  else if u16at b 6 ≠ 0 ∧ u16at b 6 ≠ udpSum src dst (b.take (u16at b 4)) then ((0, 0, []), 13)
  else ((u16at b 0, u16at b 2, (b.take (u16at b 4)).drop 8), 0)
/-- the bytes of a datagram, with 0 in the sum's place; with the sum -/
def udpBare (f t : Nat) (data : List UInt8) : List UInt8 := beBytes 2 f ++ beBytes 2 t ++ beBytes 2 (8 + data.length) ++ [0, 0] ++ data
def udpFull (src dst f t : Nat) (data : List UInt8) : List UInt8 :=
  beBytes 2 f ++ beBytes 2 t ++ beBytes 2 (8 + data.length) ++ beBytes 2 (udpSum src dst (udpBare f t data)) ++ data
def udpWrite (src dst : Nat) (f t : Int) (data : List UInt8) : List UInt8 × Int :=
  if f < 0 ∨ f > 65535 ∨ t < 0 ∨ t > 65535 then ([], 1)
  else if data.length > 65507 then ([], 5)
  else (udpFull src dst f.toNat t.toNat data, 0)
end Go.Proofs.Ytgiodkjcefcebaa
