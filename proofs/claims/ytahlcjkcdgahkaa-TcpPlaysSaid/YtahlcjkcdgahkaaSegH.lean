/- Contracts of Reset, the program's and the document's; of the law's theirs and same; of the document's Less. -/
import Derived.Test.YtahlcjkcdgahkaaSegS
import Derived.Test.YtahlcjkcdgahkaaTcpS
import Derived.Test.YtahlcjkcdgahkaaStruct
import Derived.Laws.BitsAllLaws
namespace Go.Proofs.Ytahlcjkcdgahkaa
open Go Go.RowKit
attribute [local go_sem ↓] Go.wp_at_zero Go.wp_at_succ
set_option maxRecDepth 100000

theorem i64_bit1 (n : Int) : bits .and .i64 n 1 = n % 2 := by
  have h1 : (BitVec.ofInt 64 1).toNat = 2 ^ 1 - 1 := by decide
  have key : (BitVec.ofInt 64 n &&& BitVec.ofInt 64 1).toNat = (n % ((2 ^ 64 : Nat) : Int)).toNat % 2 ^ 1 := by
    rw [BitVec.toNat_and, BitVec.toNat_ofInt, h1, Nat.and_two_pow_sub_one_eq_mod]
  show IntKind.i64.wrap ((BitVec.ofInt 64 n &&& BitVec.ofInt 64 1).toNat : Nat) = n % 2
  rw [key, IntKind.wrap_i64]
  omega
theorem and_two (x : Nat) : x &&& 2 = 2 * (x / 2 % 2) := by
  have h1 : (x &&& 2) % 2 ^ 2 = (x % 2 ^ 2) &&& (2 % 2 ^ 2) := Nat.and_mod_two_pow
  have h2 : x &&& 2 ≤ 2 := Nat.and_le_right
  have h3 : (x &&& 2) % 2 ^ 2 = x &&& 2 := Nat.mod_eq_of_lt (by omega)
  rw [← h3, h1]
  have h4 : x % 2 ^ 2 = 0 ∨ x % 2 ^ 2 = 1 ∨ x % 2 ^ 2 = 2 ∨ x % 2 ^ 2 = 3 := by omega
  have h5 : x / 2 % 2 = (x % 2 ^ 2) / 2 := by omega
  rw [h5]
  rcases h4 with h | h | h | h <;> rw [h] <;> decide
theorem i64_bit2 (n : Int) : bits .and .i64 n 2 = 2 * (n / 2 % 2) := by
  have h1 : (BitVec.ofInt 64 2).toNat = 2 := by decide
  have key : (BitVec.ofInt 64 n &&& BitVec.ofInt 64 2).toNat = 2 * ((n % ((2 ^ 64 : Nat) : Int)).toNat / 2 % 2) := by
    rw [BitVec.toNat_and, BitVec.toNat_ofInt, h1, and_two]
  show IntKind.i64.wrap ((BitVec.ofInt 64 n &&& BitVec.ofInt 64 2).toNat : Nat) = _
  rw [key, IntKind.wrap_i64]
  omega
theorem tBit_one (n : Int) : tBit n 1 = decide (n % 2 = 1) := by
  unfold tBit
  rw [i64_bit1]
  by_cases h : n % 2 = 1
  · rw [h]; rfl
  · have : n % 2 = 0 := by omega
    rw [this]; rfl
theorem tBit_two (n : Int) : tBit n 2 = decide (n / 2 % 2 = 1) := by
  unfold tBit
  rw [i64_bit2]
  by_cases h : n / 2 % 2 = 1
  · rw [h]; rfl
  · have : n / 2 % 2 = 0 := by omega
    rw [this]; rfl
/-- the answer to a segment for which there is no connection -/
def segReset (s : TSeg) : TSeg × Bool :=
  if tBit s.flags 4 = true then (seg0, false)
  else if tBit s.flags 16 = true then (⟨s.dst, s.src, s.ack, 0, 4, 0, 0, []⟩, true)
  else (⟨s.dst, s.src, 0, (s.seq + s.data.length + (if tBit s.flags 2 = true then 1 else 0) + (if tBit s.flags 1 = true then 1 else 0)) % 4294967296, 20, 0, 0, []⟩, true)
theorem ret_agg2 {x y : Value} {b : Bool} (h : x = y) : Ending.returned (.tuple #[x, .bool b]) = Ending.returned (.tuple #[y, .bool b]) := by rw [h]
set_option maxHeartbeats 2000000 in
theorem treset_any (f t : Int) (seq ack : Nat) (fl wi ms : Int) (data : List UInt8) (A : Option Addr) (n cap : Nat) (w : World) (hn : data.length = n) (hl : n ≤ 1000000) (r : TSeg) (b : Bool) (hr : segReset ⟨f, t, seq, ack, fl, wi, ms, data⟩ = (r, b)) :
    Calls Try.prog 35 #[.agg #[.int .i64 f, .int .i64 t, .int .u32 (seq : Int), .int .u32 (ack : Int), .int .i64 fl, .int .i64 wi, .int .i64 ms, .slice A n cap]] w fun e w' => e = .returned (.tuple #[r.val (.slice none 0 0), .bool b]) ∧ Below w.heap.size w w' := by
  have Hr := hid hr
  obtain ⟨b4, hb4⟩ : ∃ b, tBit fl 4 = b := ⟨_, rfl⟩
  obtain ⟨b16, hb16⟩ : ∃ b, tBit fl 16 = b := ⟨_, rfl⟩
  have e4 : (bits .and .i64 fl 4 != 0) = b4 := hb4
  have e16 : (bits .and .i64 fl 16 != 0) = b16 := hb16
  obtain ⟨sb, hsb⟩ : ∃ k : Nat, (if tBit fl 2 = true then 1 else 0) = k := ⟨_, rfl⟩
  obtain ⟨fb, hfb⟩ : ∃ k : Nat, (if tBit fl 1 = true then 1 else 0) = k := ⟨_, rfl⟩
  have e2 : bits .and .i64 (fl / 2) 1 = (sb : Int) := by
    rw [i64_bit1, ← hsb, tBit_two]
    by_cases h : fl / 2 % 2 = 1
    · simp [h]
    · simp [h]; omega
  have e1 : bits .and .i64 fl 1 = (fb : Int) := by
    rw [i64_bit1, ← hfb, tBit_one]
    by_cases h : fl % 2 = 1
    · simp [h]
    · simp [h]; omega
  have hs1 : sb ≤ 1 ∧ fb ≤ 1 := by rw [← hsb, ← hfb]; constructor <;> split <;> omega
  have eor : bits .or .i64 4 16 = 20 := by decide
  have Hq := hid (show (r, b) = if b4 = true then (seg0, false) else if b16 = true then (⟨t, f, ack, 0, 4, 0, 0, []⟩, true) else (⟨t, f, 0, (seq + n + sb + fb) % 4294967296, 20, 0, 0, []⟩, true) by rw [← hr, ← hb4, ← hb16, ← hsb, ← hfb, ← hn]; rfl)
  clear hn hb4 hb16 hsb hfb Hr hr
  cases b4 with
  | true =>
    obtain ⟨rfl, rfl⟩ : r = seg0 ∧ b = false := by have := Hq.out; rw [if_pos rfl] at this; exact Prod.mk.inj this
    clear Hq
    go_enter Try.func35, Try.ntmps35
    go_wp2_with fail
    have BK := Blk.new (w.alloc (.cells #[.int .i64 f, .int .i64 t, .int .u32 (seq : Int), .int .u32 (ack : Int), .int .i64 fl, .int .i64 wi, .int .i64 ms, .slice A n cap] 30)) 30 #[.int .i64 0, .int .i64 0, .int .u32 0, .int .u32 0, .int .i64 0, .int .i64 0, .int .i64 0, .slice none 0 0]
    rw [World.size_alloc] at BK
    refine ret_cell2 rfl _ _ _ _ rfl BK Try.underlying30 seginfo _ rfl rfl ?_
    exact ⟨rfl, below_alloc' (below_alloc w _) _⟩
  | false =>
    cases b16 with
    | true =>
      obtain ⟨rfl, rfl⟩ : r = ⟨t, f, ack, 0, 4, 0, 0, []⟩ ∧ b = true := by have := Hq.out; rw [if_neg (by decide), if_pos rfl] at this; exact Prod.mk.inj this
      clear Hq
      go_enter Try.func35, Try.ntmps35
      go_wp2_with fail
      have BK := Blk.new (w.alloc (.cells #[.int .i64 f, .int .i64 t, .int .u32 (seq : Int), .int .u32 (ack : Int), .int .i64 fl, .int .i64 wi, .int .i64 ms, .slice A n cap] 30)) 30 #[.int .i64 t, .int .i64 f, .int .u32 (ack : Int), .int .u32 0, .int .i64 4, .int .i64 0, .int .i64 0, .slice none 0 0]
      rw [World.size_alloc] at BK
      refine ret_cell2 rfl _ _ _ _ rfl (BK.alloc _) Try.underlying30 seginfo _ rfl rfl ?_
      exact ⟨rfl, below_alloc' (below_alloc' (below_alloc w _) _) _⟩
    | false =>
      have e3 : ((seq : Int) + (n : Int) + (sb : Int) + (fb : Int)) % 4294967296 = (((seq + n + sb + fb) % 4294967296 : Nat) : Int) := by omega
      obtain ⟨h1, rfl⟩ : r = ⟨t, f, 0, (seq + n + sb + fb) % 4294967296, 20, 0, 0, []⟩ ∧ b = true := by have := Hq.out; rw [if_neg (by decide), if_neg (by decide)] at this; exact Prod.mk.inj this
      have H1 := hid h1
      have E3 := hid e3
      clear h1 Hq e3
      go_enter Try.func35, Try.ntmps35
      go_wp2_with fail
      have BK := Blk.new (w.alloc (.cells #[.int .i64 f, .int .i64 t, .int .u32 (seq : Int), .int .u32 (ack : Int), .int .i64 fl, .int .i64 wi, .int .i64 ms, .slice A n cap] 30)) 30 #[.int .i64 t, .int .i64 f, .int .u32 0, .int .u32 (((seq : Int) + (n : Int) + (sb : Int) + (fb : Int)) % 4294967296), .int .i64 20, .int .i64 0, .int .i64 0, .slice none 0 0]
      rw [World.size_alloc] at BK
      refine ret_cell2 rfl _ _ _ _ rfl (BK.alloc _) Try.underlying30 seginfo _ rfl rfl ?_
      exact ⟨by rw [H1.out, E3.out]; rfl, below_alloc' (below_alloc' (below_alloc w _) _) _⟩
theorem rseginfoH : (Try.prog.info? 51).map (·.size) = some 8 := by kernel_rfl
set_option maxHeartbeats 2000000 in
theorem rreset_any (f t : Int) (seq ack : Nat) (fl wi ms : Int) (data : List UInt8) (A : Option Addr) (n cap : Nat) (w : World) (hn : data.length = n) (hl : n ≤ 1000000) (r : TSeg) (b : Bool) (hr : segReset ⟨f, t, seq, ack, fl, wi, ms, data⟩ = (r, b)) :
    Calls Try.prog 36 #[.agg #[.int .i64 f, .int .i64 t, .int .u32 (seq : Int), .int .u32 (ack : Int), .int .i64 fl, .int .i64 wi, .int .i64 ms, .slice A n cap]] w fun e w' => e = .returned (.tuple #[r.val (.slice none 0 0), .bool b]) ∧ Below w.heap.size w w' := by
  have Hr := hid hr
  obtain ⟨b4, hb4⟩ : ∃ b, tBit fl 4 = b := ⟨_, rfl⟩
  obtain ⟨b16, hb16⟩ : ∃ b, tBit fl 16 = b := ⟨_, rfl⟩
  obtain ⟨b2, hb2⟩ : ∃ b, tBit fl 2 = b := ⟨_, rfl⟩
  obtain ⟨b1, hb1⟩ : ∃ b, tBit fl 1 = b := ⟨_, rfl⟩
  have e4 : (bits .and .i64 fl 4 != 0) = b4 := hb4
  have e16 : (bits .and .i64 fl 16 != 0) = b16 := hb16
  have e2 : (bits .and .i64 fl 2 != 0) = b2 := hb2
  have e1 : (bits .and .i64 fl 1 != 0) = b1 := hb1
  have Hq := hid (show (r, b) = if b4 = true then (seg0, false) else if b16 = true then (⟨t, f, ack, 0, 4, 0, 0, []⟩, true) else (⟨t, f, 0, (seq + n + (if b2 = true then 1 else 0) + (if b1 = true then 1 else 0)) % 4294967296, 20, 0, 0, []⟩, true) by rw [← hr, ← hb4, ← hb16, ← hb2, ← hb1, ← hn]; rfl)
  clear hn hb4 hb16 hb2 hb1 Hr hr
  cases b4 with
  | true =>
    obtain ⟨rfl, rfl⟩ : r = seg0 ∧ b = false := by have := Hq.out; rw [if_pos rfl] at this; exact Prod.mk.inj this
    clear Hq
    go_enter Try.func36, Try.ntmps36
    go_wp2_with fail
    have BK := Blk.new (w.alloc (.cells #[.int .i64 f, .int .i64 t, .int .u32 (seq : Int), .int .u32 (ack : Int), .int .i64 fl, .int .i64 wi, .int .i64 ms, .slice A n cap] 51)) 51 #[.int .i64 0, .int .i64 0, .int .u32 0, .int .u32 0, .int .i64 0, .int .i64 0, .int .i64 0, .slice none 0 0]
    rw [World.size_alloc] at BK
    refine ret_cell2 rfl _ _ _ _ rfl BK Try.underlying51 rseginfoH _ rfl rfl ?_
    exact ⟨rfl, below_alloc' (below_alloc w _) _⟩
  | false =>
    cases b16 with
    | true =>
      obtain ⟨rfl, rfl⟩ : r = ⟨t, f, ack, 0, 4, 0, 0, []⟩ ∧ b = true := by have := Hq.out; rw [if_neg (by decide), if_pos rfl] at this; exact Prod.mk.inj this
      clear Hq
      go_enter Try.func36, Try.ntmps36
      go_wp2_with fail
      have BK := Blk.new (w.alloc (.cells #[.int .i64 f, .int .i64 t, .int .u32 (seq : Int), .int .u32 (ack : Int), .int .i64 fl, .int .i64 wi, .int .i64 ms, .slice A n cap] 51)) 51 #[.int .i64 t, .int .i64 f, .int .u32 (ack : Int), .int .u32 0, .int .i64 4, .int .i64 0, .int .i64 0, .slice none 0 0]
      rw [World.size_alloc] at BK
      refine ret_cell2 rfl _ _ _ _ rfl (BK.alloc _) Try.underlying51 rseginfoH _ rfl rfl ?_
      exact ⟨rfl, below_alloc' (below_alloc' (below_alloc w _) _) _⟩
    | false =>
      obtain ⟨h1, rfl⟩ : r = ⟨t, f, 0, (seq + n + (if b2 = true then 1 else 0) + (if b1 = true then 1 else 0)) % 4294967296, 20, 0, 0, []⟩ ∧ b = true := by have := Hq.out; rw [if_neg (by decide), if_neg (by decide)] at this; exact Prod.mk.inj this
      have H1 := hid h1
      clear h1 Hq
      cases b2 <;> cases b1
      · have BK := Blk.new (w.alloc (.cells #[.int .i64 f, .int .i64 t, .int .u32 (seq : Int), .int .u32 (ack : Int), .int .i64 fl, .int .i64 wi, .int .i64 ms, .slice A n cap] 51)) 51 #[.int .i64 t, .int .i64 f, .int .u32 0, .int .u32 (((seq : Int) + (n : Int)) % 4294967296), .int .i64 20, .int .i64 0, .int .i64 0, .slice none 0 0]
        rw [World.size_alloc] at BK
        have E3 := hid (show (((seq : Int) + (n : Int)) % 4294967296) = (((seq + n + 0 + 0) % 4294967296 : Nat) : Int) by omega)
        have HBK := hid BK
        clear BK
        go_enter Try.func36, Try.ntmps36
        go_wp2_with fail
        refine ret_cell2 rfl _ _ _ _ rfl (HBK.out.alloc _) Try.underlying51 rseginfoH _ rfl rfl ?_
        exact ⟨by rw [H1.out, E3.out]; rfl, below_alloc' (below_alloc' (below_alloc w _) _) _⟩
      · have BK := Blk.new (w.alloc (.cells #[.int .i64 f, .int .i64 t, .int .u32 (seq : Int), .int .u32 (ack : Int), .int .i64 fl, .int .i64 wi, .int .i64 ms, .slice A n cap] 51)) 51 #[.int .i64 t, .int .i64 f, .int .u32 0, .int .u32 (((seq : Int) + (n : Int) + 1) % 4294967296), .int .i64 20, .int .i64 0, .int .i64 0, .slice none 0 0]
        rw [World.size_alloc] at BK
        have E3 := hid (show (((seq : Int) + (n : Int) + 1) % 4294967296) = (((seq + n + 0 + 1) % 4294967296 : Nat) : Int) by omega)
        have HBK := hid BK
        clear BK
        go_enter Try.func36, Try.ntmps36
        go_wp2_with fail
        refine ret_cell2 rfl _ _ _ _ rfl (HBK.out.alloc _) Try.underlying51 rseginfoH _ rfl rfl ?_
        exact ⟨by rw [H1.out, E3.out]; rfl, below_alloc' (below_alloc' (below_alloc w _) _) _⟩
      · have BK := Blk.new (w.alloc (.cells #[.int .i64 f, .int .i64 t, .int .u32 (seq : Int), .int .u32 (ack : Int), .int .i64 fl, .int .i64 wi, .int .i64 ms, .slice A n cap] 51)) 51 #[.int .i64 t, .int .i64 f, .int .u32 0, .int .u32 (((seq : Int) + (n : Int) + 1) % 4294967296), .int .i64 20, .int .i64 0, .int .i64 0, .slice none 0 0]
        rw [World.size_alloc] at BK
        have E3 := hid (show (((seq : Int) + (n : Int) + 1) % 4294967296) = (((seq + n + 1 + 0) % 4294967296 : Nat) : Int) by omega)
        have HBK := hid BK
        clear BK
        go_enter Try.func36, Try.ntmps36
        go_wp2_with fail
        refine ret_cell2 rfl _ _ _ _ rfl (HBK.out.alloc _) Try.underlying51 rseginfoH _ rfl rfl ?_
        exact ⟨by rw [H1.out, E3.out]; rfl, below_alloc' (below_alloc' (below_alloc w _) _) _⟩
      · have BK := Blk.new (w.alloc (.cells #[.int .i64 f, .int .i64 t, .int .u32 (seq : Int), .int .u32 (ack : Int), .int .i64 fl, .int .i64 wi, .int .i64 ms, .slice A n cap] 51)) 51 #[.int .i64 t, .int .i64 f, .int .u32 0, .int .u32 (((seq : Int) + (n : Int) + 1 + 1) % 4294967296), .int .i64 20, .int .i64 0, .int .i64 0, .slice none 0 0]
        rw [World.size_alloc] at BK
        have E3 := hid (show (((seq : Int) + (n : Int) + 1 + 1) % 4294967296) = (((seq + n + 1 + 1) % 4294967296 : Nat) : Int) by omega)
        have HBK := hid BK
        clear BK
        go_enter Try.func36, Try.ntmps36
        go_wp2_with fail
        refine ret_cell2 rfl _ _ _ _ rfl (HBK.out.alloc _) Try.underlying51 rseginfoH _ rfl rfl ?_
        exact ⟨by rw [H1.out, E3.out]; rfl, below_alloc' (below_alloc' (below_alloc w _) _) _⟩
/-- a segment as the document's -/
theorem theirs_any (f t : Int) (seq ack : Nat) (fl wi ms : Int) (A : Option Addr) (n cap : Nat) (w : World) :
    Calls Try.prog 25 #[.agg #[.int .i64 f, .int .i64 t, .int .u32 (seq : Int), .int .u32 (ack : Int), .int .i64 fl, .int .i64 wi, .int .i64 ms, .slice A n cap]] w fun e w' => e = .returned (.agg #[.int .i64 f, .int .i64 t, .int .u32 (seq : Int), .int .u32 (ack : Int), .int .i64 fl, .int .i64 wi, .int .i64 ms, .slice A n cap]) ∧ Below w.heap.size w w' := by
  go_enter Try.func25, Try.ntmps25
  go_wp2_with fail
  have BK := Blk.new (w.alloc (.cells #[.int .i64 f, .int .i64 t, .int .u32 (seq : Int), .int .u32 (ack : Int), .int .i64 fl, .int .i64 wi, .int .i64 ms, .slice A n cap] 30)) 51 #[.int .i64 f, .int .i64 t, .int .u32 (seq : Int), .int .u32 (ack : Int), .int .i64 fl, .int .i64 wi, .int .i64 ms, .slice A n cap]
  rw [World.size_alloc] at BK
  refine ret_cell1 rfl _ _ _ _ rfl BK Try.underlying51 rseginfoH rfl ?_
  exact ⟨rfl, below_alloc' (below_alloc w _) _⟩
/-- both are the same -/
theorem same_any (f t : Int) (seq ack : Nat) (fl wi ms : Int) (data : List UInt8) (A B : Option Addr) (n cap cap2 : Nat) (w : World) (ha : Bs w (.slice A n cap) data) (hb : Bs w (.slice B n cap2) data) :
    Calls Try.prog 34 #[.agg #[.int .i64 f, .int .i64 t, .int .u32 (seq : Int), .int .u32 (ack : Int), .int .i64 fl, .int .i64 wi, .int .i64 ms, .slice A n cap], .agg #[.int .i64 f, .int .i64 t, .int .u32 (seq : Int), .int .u32 (ack : Int), .int .i64 fl, .int .i64 wi, .int .i64 ms, .slice B n cap2]] w fun e w' => e = .returned (.bool true) ∧ Below w.heap.size w w' := by
  have s1 := run_str Try.underlying28 Try.underlying5 Try.underlying9 ((ha.alloc (.cells #[.int .i64 f, .int .i64 t, .int .u32 (seq : Int), .int .u32 (ack : Int), .int .i64 fl, .int .i64 wi, .int .i64 ms, .slice A n cap] 30)).alloc (.cells #[.int .i64 f, .int .i64 t, .int .u32 (seq : Int), .int .u32 (ack : Int), .int .i64 fl, .int .i64 wi, .int .i64 ms, .slice B n cap2] 51))
  have s2 := run_str Try.underlying28 Try.underlying5 Try.underlying9 ((hb.alloc (.cells #[.int .i64 f, .int .i64 t, .int .u32 (seq : Int), .int .u32 (ack : Int), .int .i64 fl, .int .i64 wi, .int .i64 ms, .slice A n cap] 30)).alloc (.cells #[.int .i64 f, .int .i64 t, .int .u32 (seq : Int), .int .u32 (ack : Int), .int .i64 fl, .int .i64 wi, .int .i64 ms, .slice B n cap2] 51))
  clear ha hb
  go_enter Try.func34, Try.ntmps34
  go_wp2_with fail
  go_ret
  exact ⟨rfl, below_alloc' (below_alloc w _) _⟩
theorem rless_any (a b : Nat) (ha : a < 4294967296) (hb : b < 4294967296) (w : World) : Calls Try.prog 37 #[.int .u32 (a : Int), .int .u32 (b : Int)] w fun e w' => e = .returned (.bool (tLess a b)) ∧ w' = w := by
  obtain ⟨d, hd⟩ : ∃ d : Nat, (b + 4294967296 - a) % 4294967296 = d := ⟨_, rfl⟩
  have h2 : ((b : Int) - (a : Int)) % 4294967296 = (d : Int) := by omega
  have H3 := hid (show tLess a b = (decide (d ≥ 1) && decide (d < 2147483648)) by unfold tLess; rw [← Bool.decide_and]; congr 1; simp only [eq_iff_iff]; omega)
  rw [H3.out]
  clear hd ha hb
  by_cases h1 : d ≥ 1
  · have h1I : (d : Int) ≥ 1 := by omega
    by_cases h4 : d < 2147483648
    · have h4I : (d : Int) < 2147483648 := by omega
      go_enter Try.func37, Try.ntmps37
      go_wp2_with fail
      go_ret
      exact ⟨ret_bool (by simp_all), rfl⟩
    · have h4I : ¬ (d : Int) < 2147483648 := by omega
      go_enter Try.func37, Try.ntmps37
      go_wp2_with fail
      go_ret
      exact ⟨ret_bool (by simp_all), rfl⟩
  · have h1I : ¬ (d : Int) ≥ 1 := by omega
    go_enter Try.func37, Try.ntmps37
    go_wp2_with fail
    go_ret
    exact ⟨ret_bool (by simp_all), rfl⟩
end Go.Proofs.Ytahlcjkcdgahkaa
