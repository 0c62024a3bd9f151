/- What a written datagram is read as; what one turned byte does: plain lists, no program. -/
import Derived.Test.YtgiodkjcefcebaaUdpF
import Derived.Test.YtgiodkjcefcebaaNumCheckL
namespace Go.Proofs.Ytgiodkjcefcebaa
open Go Go.RowKit

/-- a sum that is never nought -/
def nsum (L : List UInt8) : Nat := if inet L = 0 then 65535 else inet L
theorem nsum_pos (L : List UInt8) : 0 < nsum L := by unfold nsum; split <;> omega
theorem nsum_le (L : List UInt8) : nsum L ≤ 65535 := by unfold nsum inet; split <;> omega
theorem nsum_mod (L : List UInt8) : (nsum L + inetAcc false 0 L) % 65535 = 0 := by
  have h : inet L = 65535 - fold16 (inetAcc false 0 L) := rfl
  unfold nsum
  generalize inetAcc false 0 L = S at *
  unfold fold16 at h
  split at h <;> split <;> omega
theorem nsum_turned (pre suf : List UInt8) (x y : UInt8) (h : x ≠ y) : nsum (pre ++ x :: suf) ≠ nsum (pre ++ y :: suf) := by
  intro e
  obtain ⟨base, w, hw, hb⟩ := inetAcc_byte pre suf
  have h1 := nsum_mod (pre ++ x :: suf)
  have h2 := nsum_mod (pre ++ y :: suf)
  rw [hb] at h1 h2
  have hx := x.toNat_lt
  have hy := y.toNat_lt
  have hne : x.toNat ≠ y.toNat := fun e => h (UInt8.toNat_inj.1 e)
  rw [e] at h1
  rcases hw with rfl | rfl <;> omega
theorem udpSum_eq (src dst : Nat) (b : List UInt8) : udpSum src dst b = nsum (udpHead src dst b.length ++ b.take 6 ++ [0, 0] ++ b.drop 8) := rfl
theorem udpSum_pos (src dst : Nat) (b : List UInt8) : 0 < udpSum src dst b := nsum_pos _
/-- a turned byte beside the sum's place -/
theorem udpSum_set (src dst : Nat) (b : List UInt8) (k : Nat) (y : UInt8) (hk : k < b.length) (h67 : k < 6 ∨ 8 ≤ k) (hy : b[k] ≠ y) : udpSum src dst (b.set k y) ≠ udpSum src dst b := by
  rw [udpSum_eq, udpSum_eq, List.length_set]
  rcases h67 with h | h
  · have e1 : (b.set k y).take 6 = (b.take 6).set k y := by rw [List.take_set]
    have e2 : (b.set k y).drop 8 = b.drop 8 := List.drop_set_of_lt (by omega)
    have hk6 : k < (b.take 6).length := by simp; omega
    rw [e1, e2, set_split (b.take 6) k y hk6]
    conv => rhs; rw [split_at (b.take 6) k hk6]
    have e3 : (b.take 6)[k] = b[k] := by simp
    rw [e3]
    simp only [List.append_assoc, List.cons_append]
    rw [← List.append_assoc, ← List.append_assoc (udpHead src dst b.length)]
    exact nsum_turned _ _ _ _ (fun e => hy e.symm)
  · have e1 : (b.set k y).take 6 = b.take 6 := by rw [List.take_set]; exact List.set_eq_of_length_le (by simp; omega)
    have e2 : (b.set k y).drop 8 = (b.drop 8).set (k - 8) y := by rw [List.drop_set, if_neg (by omega)]
    have hk6 : k - 8 < (b.drop 8).length := by simp; omega
    rw [e1, e2, set_split (b.drop 8) (k - 8) y hk6]
    conv => rhs; rw [split_at (b.drop 8) (k - 8) hk6]
    have e3 : (b.drop 8)[k - 8] = b[k] := by simp [show 8 + (k - 8) = k by omega]
    rw [e3, ← List.append_assoc, ← List.append_assoc (udpHead src dst b.length ++ List.take 6 b ++ [0, 0])]
    exact nsum_turned _ _ _ _ (fun e => hy e.symm)
theorem xor_one (n : Nat) : n ^^^ 1 = if n % 2 = 0 then n + 1 else n - 1 := by
  have h1 : (n ^^^ 1) / 2 = n / 2 := by rw [Nat.xor_div_two]; simp
  have h2 : (n ^^^ 1) % 2 = 1 - n % 2 := by
    have h3 := Nat.xor_mod_two_pow (a := n) (b := 1) (n := 1)
    simp only [Nat.pow_one] at h3
    rw [h3]
    rcases Nat.mod_two_eq_zero_or_one n with h | h <;> rw [h] <;> decide
  split <;> omega
theorem udpSum_src (src dst : Nat) (b : List UInt8) : udpSum (src ^^^ 1) dst b ≠ udpSum src dst b := by
  have e : ∀ s : Nat, beBytes 4 s = [UInt8.ofNat (s / 16777216), UInt8.ofNat (s / 65536), UInt8.ofNat (s / 256)] ++ [UInt8.ofNat s] := by
    intro s; simp [beBytes, List.range_succ]
  have h1 := xor_one src
  have d1 : (src ^^^ 1) / 16777216 = src / 16777216 := by split at h1 <;> omega
  have d2 : (src ^^^ 1) / 65536 = src / 65536 := by split at h1 <;> omega
  have d3 : (src ^^^ 1) / 256 = src / 256 := by split at h1 <;> omega
  have hne : UInt8.ofNat (src ^^^ 1) ≠ UInt8.ofNat src := by
    intro e
    have e2 := congrArg UInt8.toNat e
    rw [UInt8.toNat_ofNat', UInt8.toNat_ofNat'] at e2
    split at h1 <;> omega
  rw [udpSum_eq, udpSum_eq]
  unfold udpHead
  rw [e (src ^^^ 1), e src, d1, d2, d3]
  simp only [List.append_assoc, List.singleton_append]
  exact nsum_turned _ _ _ _ hne

theorem u16at_app (c more : List UInt8) (i : Nat) (h : i + 1 < c.length) : u16at (c ++ more) i = u16at c i := by
  rw [u16at_eq _ i (by simp; omega), u16at_eq _ i h, List.getElem_append_left (by omega), List.getElem_append_left (by omega)]
theorem u16at_set (c : List UInt8) (i k : Nat) (y : UInt8) (h : i + 1 < c.length) (h1 : k ≠ i) (h2 : k ≠ i + 1) : u16at (c.set k y) i = u16at c i := by
  rw [u16at_eq _ i (by simp; omega), u16at_eq _ i h, List.getElem_set_ne h1, List.getElem_set_ne h2]
theorem parse_gen (src dst : Nat) (c more : List UInt8) (h8 : 8 ≤ c.length) (h4 : u16at c 4 = c.length) :
    udpParse src dst (c ++ more) = if u16at c 6 ≠ 0 ∧ u16at c 6 ≠ udpSum src dst c then ((0, 0, []), 13) else ((u16at c 0, u16at c 2, c.drop 8), 0) := by
  unfold udpParse
  rw [if_neg (by simp; omega), u16at_app c more 4 (by omega), h4, if_neg (by omega), if_neg (by simp), u16at_app c more 6 (by omega), u16at_app c more 0 (by omega), u16at_app c more 2 (by omega)]
  have : (c ++ more).take c.length = c := List.take_left' rfl
  rw [this]
theorem beVal2 (x : Nat) (h : x ≤ 65535) : beVal (beBytes 2 x) = x := by
  rw [be2_eq]
  simp only [beVal, List.foldl_cons, List.foldl_nil, UInt8.toNat_ofNat']
  omega
theorem dg_at (p q n s : Nat) (data : List UInt8) (hp : p ≤ 65535) (hq : q ≤ 65535) (hn : n ≤ 65535) (hs : s ≤ 65535) :
    u16at (beBytes 2 p ++ beBytes 2 q ++ beBytes 2 n ++ beBytes 2 s ++ data) 0 = p ∧ u16at (beBytes 2 p ++ beBytes 2 q ++ beBytes 2 n ++ beBytes 2 s ++ data) 2 = q ∧
    u16at (beBytes 2 p ++ beBytes 2 q ++ beBytes 2 n ++ beBytes 2 s ++ data) 4 = n ∧ u16at (beBytes 2 p ++ beBytes 2 q ++ beBytes 2 n ++ beBytes 2 s ++ data) 6 = s ∧ (beBytes 2 p ++ beBytes 2 q ++ beBytes 2 n ++ beBytes 2 s ++ data).drop 8 = data := by
  have h1 := beVal2 p hp
  have h2 := beVal2 q hq
  have h3 := beVal2 n hn
  have h4 := beVal2 s hs
  rw [be2_eq] at h1 h2 h3 h4
  simp only [be2_eq, u16at]
  exact ⟨h1, h2, h3, h4, rfl⟩
/-- a datagram that was written: its length, its fields -/
theorem full_at (src dst f t : Nat) (data : List UInt8) (hf : f ≤ 65535) (ht : t ≤ 65535) (hl : data.length ≤ 65507) :
    (udpFull src dst f t data).length = 8 + data.length ∧ u16at (udpFull src dst f t data) 0 = f ∧ u16at (udpFull src dst f t data) 2 = t ∧ u16at (udpFull src dst f t data) 4 = 8 + data.length ∧
    u16at (udpFull src dst f t data) 6 = udpSum src dst (udpFull src dst f t data) ∧ (udpFull src dst f t data).drop 8 = data := by
  have hS : udpSum src dst (udpFull src dst f t data) = udpSum src dst (udpBare f t data) := by
    rw [udpSum_eq, udpSum_eq]
    congr 1
  rw [hS]
  unfold udpFull
  obtain ⟨a, b, c, d, e⟩ := dg_at f t (8 + data.length) (udpSum src dst (udpBare f t data)) data hf ht (by omega) (udpSum_lt _ _ _)
  refine ⟨by simp [beBytes_len]; omega, a, b, c, d, e⟩
theorem parse_full (src dst f t : Nat) (data more : List UInt8) (hf : f ≤ 65535) (ht : t ≤ 65535) (hl : data.length ≤ 65507) :
    udpParse src dst (udpFull src dst f t data ++ more) = ((f, t, data), 0) := by
  obtain ⟨a, b, c, d, e, g⟩ := full_at src dst f t data hf ht hl
  rw [parse_gen src dst _ more (by omega) (by omega), if_neg (by omega), b, c, g]
theorem parse_other (src dst f t : Nat) (data : List UInt8) (hf : f ≤ 65535) (ht : t ≤ 65535) (hl : data.length ≤ 65507) :
    udpParse (src ^^^ 1) dst (udpFull src dst f t data) = ((0, 0, []), 13) := by
  obtain ⟨a, b, c, d, e, g⟩ := full_at src dst f t data hf ht hl
  have h1 := udpSum_src src dst (udpFull src dst f t data)
  have h2 := udpSum_pos src dst (udpFull src dst f t data)
  have := parse_gen (src ^^^ 1) dst (udpFull src dst f t data) [] (by omega) (by omega)
  rw [List.append_nil] at this
  rw [this, if_pos (by omega)]
theorem parse_turned (src dst f t : Nat) (data : List UInt8) (k : Nat) (y : UInt8) (hf : f ≤ 65535) (ht : t ≤ 65535) (hl : data.length ≤ 65507) (hk : k < (udpFull src dst f t data).length) (hk2 : k < 4 ∨ 8 ≤ k)
    (hy : (udpFull src dst f t data)[k] ≠ y) : udpParse src dst ((udpFull src dst f t data).set k y) = ((0, 0, []), 13) := by
  obtain ⟨a, b, c, d, e, g⟩ := full_at src dst f t data hf ht hl
  generalize udpFull src dst f t data = B at *
  have h1 := udpSum_set src dst B k y hk (by omega) hy
  have h2 := udpSum_pos src dst B
  have := parse_gen src dst (B.set k y) [] (by simp; omega) (by rw [u16at_set B 4 k y (by omega) (by omega) (by omega)]; simp; omega)
  rw [List.append_nil] at this
  rw [this, u16at_set B 6 k y (by omega) (by omega) (by omega), if_pos (by omega)]
theorem parse_cut (src dst f t : Nat) (data : List UInt8) (k : Nat) (hf : f ≤ 65535) (ht : t ≤ 65535) (hl : data.length ≤ 65507) (hk : k < (udpFull src dst f t data).length) :
    udpParse src dst ((udpFull src dst f t data).take k) = ((0, 0, []), 11) := by
  obtain ⟨a, b, c, d, e, g⟩ := full_at src dst f t data hf ht hl
  generalize udpFull src dst f t data = B at *
  have hlen : (B.take k).length = k := by simp; omega
  unfold udpParse
  rw [hlen]
  by_cases h8 : k < 8
  · rw [if_pos h8]
  · have : u16at (B.take k) 4 = u16at B 4 := by
      have h1 : B = B.take k ++ B.drop k := (List.take_append_drop k B).symm
      conv => rhs; rw [h1]
      exact (u16at_app _ _ 4 (by omega)).symm
    rw [if_neg h8, this, d, if_neg (by omega), if_pos (by omega)]
/-- its sum's place cleared: it is read whatever it holds -/
theorem parse_none (src dst f t : Nat) (B : List UInt8) (h8 : 8 ≤ B.length) (h0 : u16at B 0 = f) (h2 : u16at B 2 = t) (h4 : u16at B 4 = B.length) (h6 : u16at B 6 = 0) : udpParse src dst B = ((f, t, B.drop 8), 0) := by
  have := parse_gen src dst B [] h8 h4
  rw [List.append_nil] at this
  rw [this, if_neg (by omega), h0, h2]
end Go.Proofs.Ytgiodkjcefcebaa
