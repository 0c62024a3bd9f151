/- Numbers as bytes and sums of bytes, in plain words: no program is named here. -/
import Derived.Test.YtgiegiobigdplaaBase
import Derived.Laws.BitsAllLaws
namespace Go.Proofs.Ytgiegiobigdplaa
open Go Go.RowKit

theorem take_snoc {α : Type} (l : List α) (k : Nat) (h : k < l.length) : l.take (k + 1) = l.take k ++ [l[k]] := List.take_succ_eq_append_getElem h

/-- rows of bytes -/
def Rows8 (w : World) (v : Value) (rows : List (List UInt8)) : Prop :=
  ∃ vs : List Value, RowN w 1 v rows.length vs ∧ ∀ (i : Nat) x r, vs[i]? = some x → rows[i]? = some r → Bs w x r

theorem RowN.cells {w : World} {n : Nat} {v : Value} {xs : List Value} (h : RowN w 1 v n xs) : ∃ A cap, v = .slice A n cap ∧ xs.length = n ∧ n ≤ cap ∧ cap ≤ 9223372036854775807 ∧
    ∀ j, (hj : j < xs.length) → ∃ b off, A = some ⟨b, off, none⟩ ∧ w.cell? ⟨b, off + j, none⟩ = some xs[j] := by
  obtain ⟨hl, A, cap, hv, h1, h2, h3⟩ := h
  refine ⟨A, cap, hv, by omega, h1, by simpa [maxLen] using h2, fun j hj => ?_⟩
  rcases h3 with h3 | ⟨b, off, hA, hc⟩
  · omega
  · exact ⟨b, off, hA, hc j _ (by simp)⟩

theorem Bs.cells {w : World} {v : Value} {bs : List UInt8} (h : Bs w v bs) : ∃ A cap, v = .slice A bs.length cap ∧ bs.length ≤ cap ∧ cap ≤ 9223372036854775807 ∧
    ∀ j, (hj : j < bs.length) → ∃ b off, A = some ⟨b, off, none⟩ ∧ w.cell? ⟨b, off + j, none⟩ = some (.int .u8 (bs[j].toNat : Int)) := by
  obtain ⟨A, cap, hv, _, h1, h2, h3⟩ := RowN.cells h
  refine ⟨A, cap, hv, h1, h2, fun j hj => ?_⟩
  obtain ⟨b, off, hA, hc⟩ := h3 j (by simpa using hj)
  exact ⟨b, off, hA, by rw [hc]; simp⟩

theorem Rows8.cells {w : World} {v : Value} {rows : List (List UInt8)} (h : Rows8 w v rows) : ∃ A cap, v = .slice A rows.length cap ∧ rows.length ≤ cap ∧ cap ≤ 9223372036854775807 ∧
    ∀ j, (hj : j < rows.length) → ∃ b off x, A = some ⟨b, off, none⟩ ∧ w.cell? ⟨b, off + j, none⟩ = some x ∧ Bs w x rows[j] := by
  obtain ⟨vs, hr, hb⟩ := h
  obtain ⟨A, cap, hv, hl, h1, h2, h3⟩ := RowN.cells hr
  refine ⟨A, cap, hv, h1, h2, fun j hj => ?_⟩
  obtain ⟨b, off, hA, hc⟩ := h3 j (by omega)
  exact ⟨b, off, _, hA, hc, hb j _ _ (by simp) (by simp)⟩

theorem flatten_take_le (l : List (List UInt8)) (k : Nat) : (l.take k).flatten.length ≤ l.flatten.length := by
  induction l generalizing k with
  | nil => simp
  | cons a l ih =>
    cases k with
    | zero => simp
    | succ k => have := ih k; rw [List.take_succ_cons, List.flatten_cons, List.flatten_cons, List.length_append, List.length_append]; omega
theorem flatten_snoc (l : List (List UInt8)) (k : Nat) (h : k < l.length) : (l.take (k + 1)).flatten = (l.take k).flatten ++ l[k] := by
  rw [take_snoc _ _ h, List.flatten_append, List.flatten_cons, List.flatten_nil, List.append_nil]
theorem row_le_flatten (l : List (List UInt8)) (k : Nat) (h : k < l.length) : (l.take k).flatten.length + l[k].length ≤ l.flatten.length := by
  have := flatten_take_le l (k + 1)
  rw [flatten_snoc l k h, List.length_append] at this
  exact this

theorem xor_ones (n S : Nat) (h : S < 2 ^ n) : (2 ^ n - 1) ^^^ S = 2 ^ n - 1 - S := by
  have h1 : (BitVec.allOnes n ^^^ BitVec.ofNat n S).toNat = 2 ^ n - 1 - S := by
    rw [BitVec.allOnes_xor, BitVec.toNat_not, BitVec.toNat_ofNat, Nat.mod_eq_of_lt h]
  rw [← h1, BitVec.toNat_xor, BitVec.toNat_allOnes, BitVec.toNat_ofNat, Nat.mod_eq_of_lt h]
theorem not_u16 (S : Nat) (h : S ≤ 65535) : bits .xor .u16 IntKind.u16.max (S : Int) = ((65535 - S : Nat) : Int) := by
  rw [show IntKind.u16.max = ((65535 : Nat) : Int) from rfl, u16_xor_nat 65535 S (by omega) (by omega), xor_ones 16 S (by omega)]
theorem not_u32 (S : Nat) (h : S < 4294967296) : bits .xor .u32 IntKind.u32.max (S : Int) = ((4294967295 - S : Nat) : Int) := by
  rw [show IntKind.u32.max = ((4294967295 : Nat) : Int) from rfl, u32_xor_nat 4294967295 S (by omega) (by omega), xor_ones 32 S (by omega)]

/-! ### Inet -/

def inetAcc : Bool → Nat → List UInt8 → Nat
  | _, s, [] => s
  | true, s, b :: r => inetAcc false (s + b.toNat) r
  | false, s, b :: r => inetAcc true (s + b.toNat * 256) r
def inetOdd : Bool → List UInt8 → Bool
  | odd, [] => odd
  | odd, _ :: r => inetOdd (!odd) r

theorem inetAcc_le (odd : Bool) (s : Nat) (l : List UInt8) : inetAcc odd s l ≤ s + 65280 * l.length := by
  induction l generalizing odd s with
  | nil => simp [inetAcc]
  | cons b r ih =>
    have hb := b.toNat_lt
    cases odd
    · have := ih true (s + b.toNat * 256); simp only [inetAcc, List.length_cons]; omega
    · have := ih false (s + b.toNat); simp only [inetAcc, List.length_cons]; omega

theorem inetAcc_append (odd : Bool) (s : Nat) (l r : List UInt8) : inetAcc odd s (l ++ r) = inetAcc (inetOdd odd l) (inetAcc odd s l) r := by
  induction l generalizing odd s with
  | nil => rfl
  | cons b l ih => cases odd <;> simp [inetAcc, inetOdd, ih]

theorem inetOdd_append (odd : Bool) (l r : List UInt8) : inetOdd odd (l ++ r) = inetOdd (inetOdd odd l) r := by
  induction l generalizing odd with
  | nil => rfl
  | cons b l ih => simp [inetOdd, ih]

theorem inetOdd_len (odd : Bool) (l : List UInt8) : inetOdd odd l = (odd ^^ (l.length % 2 == 1)) := by
  induction l generalizing odd with
  | nil => simp [inetOdd]
  | cons b l ih =>
    rw [inetOdd, ih, List.length_cons]
    rcases Nat.mod_two_eq_zero_or_one l.length with h | h
    · have : (l.length + 1) % 2 = 1 := by omega
      simp [h, this]
    · have : (l.length + 1) % 2 = 0 := by omega
      simp [h, this]

/-- Carries laid back till none is left, in closed form. -/
def fold16 (n : Nat) : Nat := if n = 0 then 0 else (n - 1) % 65535 + 1

theorem fold16_big {n : Nat} (h : 65535 < n) : fold16 n = fold16 (n % 65536 + n / 65536) := by
  unfold fold16
  rw [if_neg (by omega), if_neg (by omega)]
  omega
theorem fold16_small {n : Nat} (h : n ≤ 65535) : fold16 n = n := by
  unfold fold16
  split <;> omega
theorem fold16_le (n : Nat) : fold16 n ≤ 65535 := by
  unfold fold16
  split <;> omega

/-- The sum of bytes that networks use. -/
def inet (l : List UInt8) : Nat := 65535 - fold16 (inetAcc false 0 l)

/-! ### Crc -/

def crcStep (c : Nat) : Nat := if c % 2 = 1 then (c / 2) ^^^ 2197175160 else c / 2
def crcSteps : Nat → Nat → Nat
  | 0, c => c
  | n + 1, c => crcStep (crcSteps n c)
def crcByte (c : Nat) (b : UInt8) : Nat := crcSteps 8 (c ^^^ b.toNat)
def crcAll (c : Nat) (l : List UInt8) : Nat := l.foldl crcByte c
def crc (l : List UInt8) : Nat := 4294967295 - crcAll 4294967295 l

theorem crcStep_lt {c : Nat} (h : c < 4294967296) : crcStep c < 4294967296 := by
  unfold crcStep
  split
  · exact Nat.xor_lt_two_pow (n := 32) (by omega) (by omega)
  · omega
theorem crcSteps_lt {c : Nat} (n : Nat) (h : c < 4294967296) : crcSteps n c < 4294967296 := by
  induction n with
  | zero => exact h
  | succ n ih => exact crcStep_lt ih
theorem crcByte_lt {c : Nat} (b : UInt8) (h : c < 4294967296) : crcByte c b < 4294967296 :=
  crcSteps_lt _ (Nat.xor_lt_two_pow (n := 32) h (by have := b.toNat_lt; omega))
theorem crcAll_lt {c : Nat} (l : List UInt8) (h : c < 4294967296) : crcAll c l < 4294967296 := by
  induction l generalizing c with
  | nil => exact h
  | cons b l ih => exact ih (crcByte_lt b h)
theorem crcStep_expr (c : Nat) (h : c < 4294967296) :
    bits .xor .u32 ((c : Int) / 2) (bits .and .u32 2197175160 (-bits .and .u32 (c : Int) 1 % 4294967296)) = ((crcStep c : Nat) : Int) := by
  have h1 : bits .and .u32 (c : Int) 1 = ((c % 2 : Nat) : Int) := by
    rw [show (1 : Int) = ((1 : Nat) : Int) from rfl, u32_and_nat c 1 h (by omega), nat_mask1]
  have hd : ((c : Int) / 2) = ((c / 2 : Nat) : Int) := by omega
  rw [h1, hd]
  unfold crcStep
  rcases Nat.mod_two_eq_zero_or_one c with h2 | h2
  · rw [h2, if_neg (by omega)]
    rw [show (-((0 : Nat) : Int) % 4294967296) = ((0 : Nat) : Int) from rfl, show (2197175160 : Int) = ((2197175160 : Nat) : Int) from rfl, u32_and_nat _ _ (by omega) (by omega),
      u32_xor_nat _ _ (by omega) (by simp)]
    simp
  · rw [h2, if_pos rfl]
    rw [show (-((1 : Nat) : Int) % 4294967296) = ((4294967295 : Nat) : Int) from rfl, show (2197175160 : Int) = ((2197175160 : Nat) : Int) from rfl, u32_and_nat _ _ (by omega) (by omega),
      nat_mask32, u32_xor_nat _ _ (by omega) (by omega)]
theorem crcAll_append (c : Nat) (l r : List UInt8) : crcAll c (l ++ r) = crcAll (crcAll c l) r := List.foldl_append ..

/-! ### Numbers as bytes -/

def okSize (n : Int) : Bool := n == 1 || n == 2 || n == 4 || n == 8
def beVal (l : List UInt8) : Nat := l.foldl (fun v b => v * 256 + b.toNat) 0
def leVal (l : List UInt8) : Nat := beVal l.reverse
def beBytes (n v : Nat) : List UInt8 := (List.range n).map fun i => UInt8.ofNat (v / 256 ^ (n - 1 - i))
def leBytes (n v : Nat) : List UInt8 := (List.range n).map fun i => UInt8.ofNat (v / 256 ^ i)
def fitsOne (n : Nat) (v : Nat) : Bool := n == 8 || v / 256 ^ n == 0
def fitsB (n : Int) (l : List Nat) : Bool := okSize n && l.all (fitsOne n.toNat)

theorem beVal_snoc (l : List UInt8) (b : UInt8) : beVal (l ++ [b]) = beVal l * 256 + b.toNat := by simp [beVal]
theorem beVal_acc (l : List UInt8) (v : Nat) : l.foldl (fun v (b : UInt8) => v * 256 + b.toNat) v + 1 ≤ (v + 1) * 256 ^ l.length := by
  induction l generalizing v with
  | nil => simp
  | cons b l ih =>
    have h := ih (v * 256 + b.toNat)
    have hb := b.toNat_lt
    rw [List.foldl_cons, List.length_cons, Nat.pow_succ]
    have h2 : (v * 256 + b.toNat + 1) * 256 ^ l.length ≤ (v * 256 + 256) * 256 ^ l.length := Nat.mul_le_mul_right _ (by omega)
    have h3 : (v * 256 + 256) * 256 ^ l.length = (v + 1) * (256 ^ l.length * 256) := by
      rw [show v * 256 + 256 = (v + 1) * 256 from by omega, Nat.mul_assoc, Nat.mul_comm 256]
    omega
theorem beVal_lt (l : List UInt8) : beVal l < 256 ^ l.length := by
  have := beVal_acc l 0
  unfold beVal
  omega
theorem beVal_small {l : List UInt8} (h : l.length ≤ 7) : beVal l ≤ 72057594037927935 := by
  have h1 := beVal_lt l
  have h2 : 256 ^ l.length ≤ 256 ^ 7 := Nat.pow_le_pow_right (by decide) h
  have h3 : 256 ^ 7 = 72057594037927936 := by decide
  omega
theorem beVal_u64 {l : List UInt8} (h : l.length ≤ 8) : beVal l < 18446744073709551616 := by
  have h1 := beVal_lt l
  have h2 : 256 ^ l.length ≤ 256 ^ 8 := Nat.pow_le_pow_right (by decide) h
  have h3 : 256 ^ 8 = 18446744073709551616 := by decide
  omega
theorem shl_or (S x : Nat) (hS : S ≤ 72057594037927935) (hx : x < 256) : bits .or .u64 ((S : Int) * 256) (x : Int) = ((S * 256 + x : Nat) : Int) := by
  rw [show ((S : Int) * 256) = ((S * 256 : Nat) : Int) from by omega, u64_or_nat _ _ (by omega) (by omega), nat_join 8 (S * 256) x (by omega) (by omega)]
theorem leVal_cons (b : UInt8) (l : List UInt8) : leVal (b :: l) = leVal l * 256 + b.toNat := by
  unfold leVal; rw [List.reverse_cons, beVal_snoc]
theorem leVal_small {l : List UInt8} (h : l.length ≤ 7) : leVal l ≤ 72057594037927935 := beVal_small (by simpa using h)

theorem okSize_le {n : Int} (h : okSize n = true) : 1 ≤ n ∧ n ≤ 8 := by simp [okSize] at h; omega

theorem fits_dec (N x : Nat) (h : N ≠ 8) : (((x : Int) / ((256 ^ N : Nat) : Int)) != 0) = !(fitsOne N x) := by
  have h8 : (N == 8) = false := by simpa using h
  rw [← Int.natCast_ediv, fitsOne, h8, Bool.false_or]
  rcases Nat.eq_zero_or_pos (x / 256 ^ N) with h0 | h0
  · simp [h0]
  · have h1 : (x / 256 ^ N == 0) = false := by simp only [beq_eq_false_iff_ne]; omega
    have h2 : (((x / 256 ^ N : Nat) : Int) != 0) = true := by simp only [bne_iff_ne]; omega
    rw [h1, h2]; rfl
theorem all_snoc {f : Nat → Bool} {l : List Nat} {j : Nat} (hj : j < l.length) (h1 : (l.take j).all f = true) (h2 : f l[j] = true) : (l.take (j + 1)).all f = true := by
  rw [take_snoc _ _ hj, List.all_append, h1]; simp [h2]
theorem all_no {f : Nat → Bool} {l : List Nat} {j : Nat} (hj : j < l.length) (h2 : f l[j] = false) : l.all f = false := by
  rw [List.all_eq_false]; exact ⟨_, List.getElem_mem hj, by simp [h2]⟩

/-- what 'cut' answers: the piece, and the fault -/
def cutOf (b : List UInt8) (p n : Int) : List UInt8 × Int :=
  if okSize n then (if p < 0 ∨ p > (b.length : Int) - n then ([], 11) else ((b.drop p.toNat).take n.toNat, 0)) else ([], 1)

theorem cutOf_len (b : List UInt8) (p n : Int) : (cutOf b p n).1.length ≤ 8 := by
  unfold cutOf
  split
  · rename_i h
    have := okSize_le h
    split
    · simp
    · simp; omega
  · simp

/-- numbers of 64 bits in a slice -/
def U64s (w : World) (v : Value) (l : List Nat) : Prop := RowN w 1 v l.length (l.map fun (x : Nat) => Value.int .u64 (x : Int)) ∧ ∀ x ∈ l, x < 18446744073709551616
theorem U64s.cells {w : World} {v : Value} {l : List Nat} (h : U64s w v l) : ∃ A cap, v = .slice A l.length cap ∧ l.length ≤ cap ∧ cap ≤ 9223372036854775807 ∧
    ∀ j, (hj : j < l.length) → ∃ b off, A = some ⟨b, off, none⟩ ∧ w.cell? ⟨b, off + j, none⟩ = some (.int .u64 (l[j] : Int)) ∧ l[j] < 18446744073709551616 := by
  obtain ⟨A, cap, hv, _, h1, h2, h3⟩ := RowN.cells h.1
  refine ⟨A, cap, hv, h1, h2, fun j hj => ?_⟩
  obtain ⟨b, off, hA, hc⟩ := h3 j (by simpa using hj)
  exact ⟨b, off, hA, by rw [hc]; simp, h.2 _ (List.getElem_mem hj)⟩
theorem U64s.below {w w' : World} {v : Value} {l : List Nat} (h : U64s w v l) (hb : Below w.heap.size w w') : U64s w' v l := ⟨h.1.below hb, h.2⟩

theorem u8_ofNat (Y : Nat) : ((Y : Int) % 256) = ((UInt8.ofNat Y).toNat : Int) := by simp
theorem two_pow_8 (q : Nat) : (2 : Int) ^ (8 * q) = ((256 ^ q : Nat) : Int) := by
  rw [show (2 : Int) = ((2 : Nat) : Int) from rfl, ← Int.natCast_pow, Nat.pow_mul]
theorem u8_shr (x q : Nat) : ((x : Int) / 2 ^ (8 * q) % 256) = ((UInt8.ofNat (x / 256 ^ q)).toNat : Int) := by
  rw [two_pow_8, ← u8_ofNat, Int.natCast_ediv]
theorem flatMap_len {f : Nat → List UInt8} {m : Nat} (hf : ∀ v, (f v).length = m) (l : List Nat) : (l.flatMap f).length = m * l.length := by
  induction l with
  | nil => simp
  | cons a l ih => rw [List.flatMap_cons, List.length_append, ih, hf, List.length_cons, Nat.mul_add, Nat.mul_one, Nat.add_comm]
theorem flatMap_snoc (f : Nat → List UInt8) (l : List Nat) (k : Nat) (h : k < l.length) : (l.take (k + 1)).flatMap f = (l.take k).flatMap f ++ f l[k] := by
  rw [take_snoc _ _ h, List.flatMap_append]; simp
theorem flatMap_len_lt {f : Nat → List UInt8} {m : Nat} (hf : ∀ v, (f v).length = m) (hm : m ≤ 8) (l : List Nat) (k : Nat) (h : k < l.length) : ((l.take k).flatMap f).length + 8 ≤ 8 * l.length := by
  rw [flatMap_len hf, List.length_take, Nat.min_eq_left (by omega)]
  have : m * k ≤ 8 * k := Nat.mul_le_mul_right _ hm
  omega

/-- what PutLe, PutBe answer -/
def putOf (f : Nat → Nat → List UInt8) (b : List UInt8) (n : Int) (l : List Nat) : List UInt8 × Int :=
  if fitsB n l then (b ++ l.flatMap (f n.toNat), 0) else ([], 1)

theorem u64_lit {w : World} {e : TypeId} {mk : Nat × Nat} (cs : Array Value) (l : List Nat) (n H : Nat) (h : cs.toList = l.map fun (x : Nat) => Value.int .u64 (x : Int)) (hn : l.length = n) (hm : n ≤ 65536) (hH : H = w.heap.size) (hx : ∀ x ∈ l, x < 18446744073709551616) :
    U64s (w.alloc (.cells cs e mk)) (.slice (some ⟨H, 0, none⟩) n n) l := by
  have := row_litm (w := w) (e := e) (mk := mk) cs _ n H h (by simpa using hn) hm hH
  subst hn
  exact ⟨this, hx⟩
theorem rows_one {w : World} {e : TypeId} {mk : Nat × Nat} {x : Value} {r : List UInt8} {H : Nat} (h : Bs w x r) (hH : H = w.heap.size) :
    Rows8 (w.alloc (.cells #[x] e mk)) (.slice (some ⟨H, 0, none⟩) 1 1) [r] :=
  ⟨[x], row_litm #[x] [x] 1 H rfl rfl (by decide) hH, fun i a b h1 h2 => by
    match i with
    | 0 =>
      simp at h1 h2
      subst h1; subst h2
      exact Bs.below h (below_alloc w _)
    | i + 1 => simp at h1⟩

theorem leBytes_len (n v : Nat) : (leBytes n v).length = n := by simp [leBytes]
theorem beBytes_len (n v : Nat) : (beBytes n v).length = n := by simp [beBytes]
theorem leBytes_get (n v i : Nat) (h : i < n) : (leBytes n v)[i]'(by simp [leBytes, h]) = UInt8.ofNat (v / 256 ^ i) := by simp [leBytes]
theorem beBytes_get (n v i : Nat) (h : i < n) : (beBytes n v)[i]'(by simp [beBytes, h]) = UInt8.ofNat (v / 256 ^ (n - 1 - i)) := by simp [beBytes]
end Go.Proofs.Ytgiegiobigdplaa
