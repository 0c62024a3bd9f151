/- What chapter 15 says of segments on the wire, in plain words. -/
import Derived.Test.YtahlcjkcdgahkaaTcpA
namespace Go.Proofs.Ytahlcjkcdgahkaa

/-- a number of the wire -/
def sAt (b : List UInt8) (i n : Nat) : Nat := beVal ((b.drop i).take n)
theorem sAt_lt (b : List UInt8) (i n : Nat) : sAt b i n < 256 ^ n := by
  have h1 := beVal_lt ((b.drop i).take n)
  have h2 : ((b.drop i).take n).length ≤ n := by simp; omega
  exact Nat.lt_of_lt_of_le h1 (Nat.pow_le_pow_right (by decide) h2)
/-- the row ahead of a segment, for its sum -/
def segHead (src dst n : Nat) : List UInt8 := beBytes 4 src ++ beBytes 4 dst ++ beBytes 2 6 ++ beBytes 2 (n % 65536)
def segSum (src dst : Nat) (b : List UInt8) : Nat := inet (segHead src dst b.length ++ b)
/-- the options from i on, with fuel g; none: they cannot be gone through -/
def segOpts : Nat → List UInt8 → Nat → Nat → Option Nat
  | 0, _, _, mss => some mss
  | g + 1, b, i, mss =>
    if b.length ≤ i ∨ (b.getD i 0).toNat = 0 then some mss
    else if (b.getD i 0).toNat = 1 then segOpts g b (i + 1) mss
    else if b.length ≤ i + 1 then none
    else if (b.getD (i + 1) 0).toNat < 2 ∨ b.length < i + (b.getD (i + 1) 0).toNat ∨ ((b.getD i 0).toNat = 2 ∧ (b.getD (i + 1) 0).toNat ≠ 4) then none
    else segOpts g b (i + (b.getD (i + 1) 0).toNat) (if (b.getD i 0).toNat = 2 then sAt b (i + 2) 2 else mss)
def seg0 : TSeg := ⟨0, 0, 0, 0, 0, 0, 0, []⟩
def segRead (b : List UInt8) (h mss : Nat) : TSeg :=
  ⟨(sAt b 0 2 : Nat), (sAt b 2 2 : Nat), sAt b 4 4, sAt b 8 4, ((b.getD 13 0).toNat % 32 : Nat), (sAt b 14 2 : Nat), (mss : Nat), b.drop h⟩
/-- the options of a segment whose header has h bytes -/
def segMore (b : List UInt8) (h : Nat) : List UInt8 := (b.drop 20).take (h - 20)
def segParse (src dst : Nat) (b : List UInt8) : TSeg × Int :=
  if b.length < 20 then (seg0, 11)
  else if (b.getD 12 0).toNat / 16 * 4 < 20 then (seg0, 15)
  else if b.length < (b.getD 12 0).toNat / 16 * 4 then (seg0, 11)
  else if segSum src dst b ≠ 0 then (seg0, 13)
  else match segOpts (segMore b ((b.getD 12 0).toNat / 16 * 4)).length (segMore b ((b.getD 12 0).toNat / 16 * 4)) 0 0 with
    | none => (seg0, 15)
    | some m => (segRead b ((b.getD 12 0).toNat / 16 * 4) m, 0)
/-- the bytes of a segment, with this sum in its place -/
def segBytes (s : TSeg) (sum : Nat) : List UInt8 :=
  beBytes 2 s.src.toNat ++ beBytes 2 s.dst.toNat ++ beBytes 4 s.seq ++ beBytes 4 s.ack ++ [UInt8.ofNat (if s.mss = 0 then 80 else 96), UInt8.ofNat s.flags.toNat] ++ beBytes 2 s.window.toNat ++ beBytes 2 sum ++ [0, 0] ++ (if s.mss = 0 then [] else [2, 4] ++ beBytes 2 s.mss.toNat) ++ s.data
def segWrite (src dst : Nat) (s : TSeg) : List UInt8 × Int :=
  if s.src < 0 ∨ s.src > 65535 ∨ s.dst < 0 ∨ s.dst > 65535 ∨ s.window < 0 ∨ s.window > 65535 ∨ s.mss < 0 ∨ s.mss > 65535 then ([], 1)
  else if s.flags < 0 ∨ s.flags > 31 then ([], 1)
  else if s.data.length > 65000 then ([], 5)
  else (segBytes s (segSum src dst (segBytes s 0)), 0)
/-- what a segment's numbers may be -/
structure TSegOk (s : TSeg) : Prop where
  seq : s.seq < 4294967296
  ack : s.ack < 4294967296
  src0 : -9223372036854775808 ≤ s.src
  src1 : s.src ≤ 9223372036854775807
  dst0 : -9223372036854775808 ≤ s.dst
  dst1 : s.dst ≤ 9223372036854775807
  fl0 : -9223372036854775808 ≤ s.flags
  fl1 : s.flags ≤ 9223372036854775807
  wi0 : -9223372036854775808 ≤ s.window
  wi1 : s.window ≤ 9223372036854775807
  ms0 : -9223372036854775808 ≤ s.mss
  ms1 : s.mss ≤ 9223372036854775807
end Go.Proofs.Ytahlcjkcdgahkaa
