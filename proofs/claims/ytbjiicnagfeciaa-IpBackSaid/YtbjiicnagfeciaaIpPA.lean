/- Contracts of the numbers of a header: ip.at, the document's be; what a packet's bytes say. -/
import Derived.Test.YtbjiicnagfeciaaIpL
import Derived.Test.YtbjiicnagfeciaaKept
import Derived.Laws.BitsAllLaws
namespace Go.Proofs.Ytbjiicnagfeciaa
open Go Go.RowKit
set_option maxRecDepth 100000

/-- a number of the wire -/
def uAt (b : List UInt8) (i n : Nat) : Nat := beVal ((b.drop i).take n)
theorem uAt_lt (b : List UInt8) (i n : Nat) : uAt b i n < 256 ^ n := by
  have h1 := beVal_lt ((b.drop i).take n)
  have h2 : ((b.drop i).take n).length ≤ n := by simp; omega
  exact Nat.lt_of_lt_of_le h1 (Nat.pow_le_pow_right (by decide) h2)
theorem cutOf_at (b : List UInt8) (i n : Nat) (p q : Int) (hp : p = i) (hq : q = n) (hn : okSize q = true) (hi : i + n ≤ b.length) : cutOf b p q = ((b.drop i).take n, 0) := by
  subst hp; subst hq
  have h : ¬((i : Int) < 0 ∨ (i : Int) > (b.length : Int) - (n : Int)) := by omega
  simp [cutOf, hn, if_neg h]

theorem at_any (v : Value) (b : List UInt8) (i n val : Nat) (p q : Int) (w : World) (h : Bs w v b) (hp : p = i) (hq : q = n) (hn : n = 2 ∨ n = 4) (hi : i + n ≤ b.length) (hv : uAt b i n = val) (hl : b.length ≤ 1099511627776) :
    Calls Try.prog 40 #[v, .int .i64 p, .int .i64 q] w fun e w' => e = .returned (.int .i64 (val : Int)) ∧ w = w' := by
  subst hp; subst hq
  have hok : okSize (n : Int) = true := by rcases hn with rfl | rfl <;> decide
  have hb := be_any v b i n w h (by omega) (by omega)
  rw [cutOf_at b i n i n rfl rfl hok hi] at hb
  have hlt := uAt_lt b i n
  have hv2 : beVal ((b.drop i).take n) = val := hv
  simp only [hv2] at hb
  rw [hv] at hlt
  have hlt2 : val < 4294967296 := by rcases hn with rfl | rfl <;> omega
  have Hb := hid hb
  clear hb hlt hv hv2 hok
  go_enter Try.func40, Try.ntmps40
  go_wp2_with (go_at_call 53; with_reducible refine Hb.out.mono ?_; rintro e w' ⟨rfl, rfl⟩)
  go_ret
  exact ⟨rfl, rfl⟩
theorem rbeN_any (v : Value) (b : List UInt8) (i n val : Nat) (p q : Int) (w : World) (h : Bs w v b) (hp : p = i) (hq : q = n) (hn : n = 2 ∨ n = 4) (hi : i + n ≤ b.length) (hv : uAt b i n = val) (hl : b.length ≤ 1099511627776) :
    Calls Try.prog 41 #[v, .int .i64 p, .int .i64 q] w fun e w' => e = .returned (.int .i64 (val : Int)) ∧ w = w' := by
  subst hp; subst hq
  have hok : okSize (n : Int) = true := by rcases hn with rfl | rfl <;> decide
  have hb := rbe_any v b i n w h (by omega) (by omega)
  rw [cutOf_at b i n i n rfl rfl hok hi] at hb
  have hlt := uAt_lt b i n
  have hv2 : beVal ((b.drop i).take n) = val := hv
  simp only [hv2] at hb
  rw [hv] at hlt
  have hlt2 : val < 4294967296 := by rcases hn with rfl | rfl <;> omega
  have Hb := hid hb
  clear hb hlt hv hv2 hok
  go_enter Try.func41, Try.ntmps41
  go_wp2_with (go_at_call 54; with_reducible refine Hb.out.mono ?_; rintro e w' ⟨rfl, rfl⟩)
  go_ret
  exact ⟨rfl, rfl⟩

def pk0 : Pk := ⟨0, 0, 0, 0, 0, false, false, 0, []⟩
/-- what bytes say, read as a packet -/
def ipRead (b : List UInt8) (h n : Nat) : Pk :=
  { src := uAt b 12 4, dst := uAt b 16 4, proto := ((b.getD 9 0).toNat : Int), id := (uAt b 4 2 : Int), off := ((uAt b 6 2 % 8192 * 8 : Nat) : Int), more := decide (uAt b 6 2 / 8192 % 2 = 1),
    whole := decide (uAt b 6 2 % 8192 = 0) && !decide (uAt b 6 2 / 8192 % 2 = 1), ttl := ((b.getD 8 0).toNat : Int), body := (b.take n).drop h }
def ipParse (b : List UInt8) : Pk × Int :=
  if b.length < 20 then (pk0, 11)
  else if (b.getD 0 0).toNat / 16 ≠ 4 ∨ (b.getD 0 0).toNat % 16 * 4 < 20 then (pk0, 15)
  else if b.length < (b.getD 0 0).toNat % 16 * 4 then (pk0, 11)
  else if uAt b 2 2 < (b.getD 0 0).toNat % 16 * 4 then (pk0, 15)
  else if b.length < uAt b 2 2 then (pk0, 11)
  else if inet (b.take ((b.getD 0 0).toNat % 16 * 4)) ≠ 0 then (pk0, 13)
  else (ipRead b ((b.getD 0 0).toNat % 16 * 4) (uAt b 2 2), 0)
end Go.Proofs.Ytbjiicnagfeciaa
