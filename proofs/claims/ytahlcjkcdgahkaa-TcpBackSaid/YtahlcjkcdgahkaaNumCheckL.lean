/- What one turned byte does to both sums: plain numbers, no program. -/
import Derived.Test.YtahlcjkcdgahkaaNumSpec
namespace Go.Proofs.Ytahlcjkcdgahkaa
open Go Go.RowKit

theorem crcStep_inj {a b : Nat} (ha : a < 4294967296) (hb : b < 4294967296) (h : crcStep a = crcStep b) : a = b := by
  have key : ∀ c d : Nat, c < 4294967296 → d < 4294967296 → c / 2 ^^^ 2197175160 ≠ d / 2 := by
    intro c d hc hd e
    have h1 := congrArg (fun x => Nat.testBit x 31) e
    simp only [Nat.testBit_xor] at h1
    rw [Nat.testBit_lt_two_pow (by omega : c / 2 < 2 ^ 31), Nat.testBit_lt_two_pow (by omega : d / 2 < 2 ^ 31)] at h1
    exact absurd h1 (by decide)
  unfold crcStep at h
  split at h <;> split at h
  · have h1 := congrArg (fun x => x ^^^ 2197175160) h
    simp only [Nat.xor_assoc, Nat.xor_self, Nat.xor_zero] at h1
    omega
  · exact absurd h (key a b ha hb)
  · exact absurd h.symm (key b a hb ha)
  · omega
theorem crcSteps_inj {a b : Nat} (n : Nat) (ha : a < 4294967296) (hb : b < 4294967296) (h : crcSteps n a = crcSteps n b) : a = b := by
  induction n with
  | zero => exact h
  | succ n ih => exact ih (crcStep_inj (crcSteps_lt n ha) (crcSteps_lt n hb) h)
theorem xor_cancel {a b c : Nat} (h : a ^^^ c = b ^^^ c) : a = b := by
  have h1 := congrArg (fun x => x ^^^ c) h
  simpa only [Nat.xor_assoc, Nat.xor_self, Nat.xor_zero] using h1
theorem byte_xor_lt {a : Nat} (x : UInt8) (ha : a < 4294967296) : a ^^^ x.toNat < 4294967296 := Nat.xor_lt_two_pow (n := 32) ha (by have := x.toNat_lt; omega)
theorem crcByte_inj {a b : Nat} (x : UInt8) (ha : a < 4294967296) (hb : b < 4294967296) (h : crcByte a x = crcByte b x) : a = b :=
  xor_cancel (crcSteps_inj 8 (byte_xor_lt x ha) (byte_xor_lt x hb) h)
theorem crcByte_inj2 {a : Nat} {x y : UInt8} (ha : a < 4294967296) (h : crcByte a x = crcByte a y) : x = y := by
  have h1 := crcSteps_inj 8 (byte_xor_lt x ha) (byte_xor_lt y ha) h
  rw [Nat.xor_comm a, Nat.xor_comm a] at h1
  exact UInt8.toNat_inj.1 (xor_cancel h1)
theorem crcAll_inj {a b : Nat} (l : List UInt8) (ha : a < 4294967296) (hb : b < 4294967296) (h : crcAll a l = crcAll b l) : a = b := by
  induction l generalizing a b with
  | nil => exact h
  | cons x l ih => exact crcByte_inj x ha hb (ih (crcByte_lt x ha) (crcByte_lt x hb) h)

/-- one byte turned turns the sum that disks use -/
theorem crc_turned (pre suf : List UInt8) (x y : UInt8) (h : x ≠ y) : crc (pre ++ x :: suf) ≠ crc (pre ++ y :: suf) := by
  intro e
  have hs := crcAll_lt (c := 4294967295) pre (by omega)
  have h1 := crcAll_lt (c := 4294967295) (pre ++ x :: suf) (by omega)
  have h2 := crcAll_lt (c := 4294967295) (pre ++ y :: suf) (by omega)
  unfold crc at e
  have e2 : crcAll 4294967295 (pre ++ x :: suf) = crcAll 4294967295 (pre ++ y :: suf) := by omega
  rw [crcAll_append, crcAll_append] at e2
  have e3 : crcByte (crcAll 4294967295 pre) x = crcByte (crcAll 4294967295 pre) y := crcAll_inj suf (crcByte_lt x hs) (crcByte_lt y hs) e2
  exact h (crcByte_inj2 hs e3)

theorem inetAcc_add (o : Bool) (s t : Nat) (l : List UInt8) : inetAcc o (s + t) l = inetAcc o s l + t := by
  induction l generalizing o s with
  | nil => rfl
  | cons b l ih =>
    cases o
    · simp only [inetAcc]; rw [← ih]; congr 1; omega
    · simp only [inetAcc]; rw [← ih]; congr 1; omega

/-- what a byte counts in the sum that networks use -/
theorem inetAcc_byte (pre suf : List UInt8) : ∃ base w, (w = 1 ∨ w = 256) ∧ ∀ x : UInt8, inetAcc false 0 (pre ++ x :: suf) = base + x.toNat * w := by
  refine ⟨inetAcc (!(inetOdd false pre)) (inetAcc false 0 pre) suf, if inetOdd false pre then 1 else 256, by cases inetOdd false pre <;> simp, fun x => ?_⟩
  rw [inetAcc_append]
  cases inetOdd false pre
  · simp only [inetAcc]; rw [inetAcc_add]; simp
  · simp only [inetAcc]; rw [inetAcc_add]; simp

theorem inet_zero (l : List UInt8) : inet l = 0 ↔ (0 < inetAcc false 0 l ∧ inetAcc false 0 l % 65535 = 0) := by
  unfold inet fold16
  split <;> omega

/-- one byte turned turns a sum that was nought -/
theorem inet_turned (pre suf : List UInt8) (x y : UInt8) (h : x ≠ y) (h0 : inet (pre ++ x :: suf) = 0) : inet (pre ++ y :: suf) ≠ 0 := by
  intro h1
  obtain ⟨base, w, hw, hb⟩ := inetAcc_byte pre suf
  rw [inet_zero, hb] at h0 h1
  have hx := x.toNat_lt
  have hy := y.toNat_lt
  have hne : x.toNat ≠ y.toNat := fun e => h (UInt8.toNat_inj.1 e)
  rcases hw with rfl | rfl
  · omega
  · omega

/-- an even row with its own sum behind it sums to nought -/
theorem inet_own (l : List UInt8) (he : l.length % 2 = 0) : inet (l ++ beBytes 2 (inet l)) = 0 := by
  have hod : inetOdd false l = false := by rw [inetOdd_len, he]; rfl
  have hb : beBytes 2 (inet l) = [UInt8.ofNat (inet l / 256), UInt8.ofNat (inet l)] := by
    simp [beBytes, List.range_succ]
  rw [inet_zero, inetAcc_append, hod, hb]
  simp only [inetAcc]
  have h1 : inet l = 65535 - fold16 (inetAcc false 0 l) := rfl
  generalize inetAcc false 0 l = S at *
  unfold fold16 at h1
  have h2 : (UInt8.ofNat (inet l / 256)).toNat = inet l / 256 % 256 := by simp
  have h3 : (UInt8.ofNat (inet l)).toNat = inet l % 256 := by simp
  rw [h2, h3]
  split at h1 <;> omega

theorem split_at (l : List UInt8) (k : Nat) (h : k < l.length) : l = l.take k ++ l[k] :: l.drop (k + 1) := by
  rw [← List.drop_eq_getElem_cons h, List.take_append_drop]
theorem set_split (l : List UInt8) (k : Nat) (y : UInt8) (h : k < l.length) : l.set k y = l.take k ++ y :: l.drop (k + 1) := by
  rw [List.set_eq_take_append_cons_drop, if_pos h]
theorem byte_flip (x : UInt8) (m : Nat) (h : m < 8) : x ≠ UInt8.ofNat (x.toNat ^^^ 2 ^ m) := by
  intro e
  have hx := x.toNat_lt
  have h1 := congrArg UInt8.toNat e
  have h2 : x.toNat ^^^ 2 ^ m < 256 := Nat.xor_lt_two_pow (n := 8) hx (Nat.pow_lt_pow_right (by decide) h)
  have h3 : (UInt8.ofNat (x.toNat ^^^ 2 ^ m)).toNat = x.toNat ^^^ 2 ^ m := by rw [UInt8.toNat_ofNat']; exact Nat.mod_eq_of_lt h2
  rw [h3] at h1
  have h4 := congrArg (fun z => x.toNat ^^^ z) h1
  simp only [Nat.xor_self, ← Nat.xor_assoc, Nat.zero_xor] at h4
  have := Nat.two_pow_pos m
  omega
end Go.Proofs.Ytahlcjkcdgahkaa
