/- The walk of DrcKeys. -/
import Derived.Test.YtkgeccmpekclcaaDrcQ
import Derived.Deep.Cut
import Derived.Deep.CutRange
import Derived.Deep.RegionHeld3
import Derived.Deep.DrawnRows
namespace Go.Proofs.Ytkgeccmpekclcaa
open Go Go.RowKit
attribute [local go_sem ↓] Go.wp_at_zero Go.wp_at_succ
set_option maxRecDepth 100000

theorem cells10 {w : World} {g1 g2 : Nat} {t1 t2 : TypeId} {x0 x1 x2 x3 x4 y0 y1 y2 y3 y4 : Value} (h1 : Blk w g1 t1 [x0, x1, x2, x3, x4]) (h2 : Blk w g2 t2 [y0, y1, y2, y3, y4]) :
    w.cell? ⟨g1, 0, none⟩ = some x0 ∧ w.cell? ⟨g1, 1, none⟩ = some x1 ∧ w.cell? ⟨g1, 2, none⟩ = some x2 ∧ w.cell? ⟨g1, 3, none⟩ = some x3 ∧ w.cell? ⟨g1, 4, none⟩ = some x4 ∧ w.cell? ⟨g2, 0, none⟩ = some y0 ∧ w.cell? ⟨g2, 1, none⟩ = some y1 ∧ w.cell? ⟨g2, 2, none⟩ = some y2 ∧ w.cell? ⟨g2, 3, none⟩ = some y3 ∧ w.cell? ⟨g2, 4, none⟩ = some y4 :=
  ⟨h1.cell 0, h1.cell 1, h1.cell 2, h1.cell 3, h1.cell 4, h2.cell 0, h2.cell 1, h2.cell 2, h2.cell 3, h2.cell 4⟩
theorem xor_one (p : Int) : bits .xor .i64 p 1 ≠ p := by
  intro e
  have e2 : IntKind.i64.wrap ((BitVec.ofInt 64 p ^^^ BitVec.ofInt 64 1).toNat : Int) = p := e
  rw [BitVec.toNat_xor, IntKind.wrap_i64] at e2
  have h1 : (BitVec.ofInt 64 (1 : Int)).toNat = 1 := by decide
  rw [h1] at e2
  have h2 : ((BitVec.ofInt 64 p).toNat ^^^ 1) % 2 ≠ (BitVec.ofInt 64 p).toNat % 2 := by
    have h := Nat.testBit_xor (BitVec.ofInt 64 p).toNat 1 0
    rw [Nat.testBit_zero, Nat.testBit_zero, Nat.testBit_zero] at h
    intro e
    rw [e] at h
    simp at h
  have h3 : ((BitVec.ofInt 64 p).toNat : Int) = p % 18446744073709551616 := by
    rw [BitVec.toNat_ofInt]
    have : (0 : Int) ≤ p % ((2 ^ 64 : Nat) : Int) := Int.emod_nonneg _ (by decide)
    omega
  omega
theorem drcOf_key (ip : Nat) (port : Int) (b : List UInt8) (h : 24 ≤ b.length) : drcOf ip port b = (⟨ip, port, uAt4 b 0, uAt4 b 20, crc b⟩, 0) := by
  unfold drcOf
  rw [if_neg (by omega)]
theorem u8_plus (x y : UInt8) (hy : y.toNat ≠ 0) : ∃ z : UInt8, IntKind.u8.wrap ((x.toNat : Int) + (y.toNat : Int)) = (z.toNat : Int) ∧ x ≠ z := by
  refine ⟨x + y, ?_, ?_⟩
  · rw [UInt8.toNat_add, IntKind.wrap_u8]; omega
  · intro e
    have := congrArg UInt8.toNat e
    rw [UInt8.toNat_add] at this
    have := x.toNat_lt; have := y.toNat_lt
    omega
set_option maxHeartbeats 4000000 in
theorem drcKeys_walk (v : Value) (b : List UInt8) (ip : Nat) (port at_ : Int) (y : UInt8) (w : World) (h : Bs w v b) (hip : ip < 4294967296) (hp1 : -9223372036854775808 ≤ port) (hp2 : port ≤ 9223372036854775807) :
    Calls Try.prog 5 #[.int .u32 (ip : Int), .int .i64 port, v, .int .i64 at_, .int .u8 (y.toNat : Int)] w fun e w' => e = .returned (.bool true) ∧ Below w.heap.size w w' := by
  have HB := hid h
  obtain ⟨n, hn⟩ : ∃ n, b.length = n := ⟨_, rfl⟩
  obtain ⟨A, cap, rfl⟩ := slice_len h hn
  have Hn := hid hn
  have K0 := hid ((Kept.new w).add HB.out)
  clear h hn
  by_cases hbig : n > 16384
  · have g1 : (n : Int) > 16384 := by omega
    go_enter Try.func5, Try.ntmps5
    go_wp2_with ((go_at_call 6; refine (known_any _).mono ?_; rintro e w' ⟨rfl, hb1⟩); have K1 := hid (K0.out.step hb1); clear hb1)
    go_ret
    exact ⟨rfl, K1.out.bel⟩
  have g1 : ¬ (n : Int) > 16384 := by omega
  have Hl := hid (show b.length ≤ 1099511627776 by rw [Hn.out]; omega)
  rcases hO : drcOf ip port b with ⟨⟨k1, k2, k3, k4, k5⟩, code⟩
  have HO := hid hO
  clear hO
  go_enter Try.func5, Try.ntmps5
  go_upto_region 7 with (first
    | ((go_at_call 6; refine (known_any _).mono ?_; rintro e w' ⟨rfl, hb1⟩); have K1 := hid (K0.out.step hb1); clear hb1)
    | ((with_reducible show wpList _ _ _ (Oper.mk (some 33) _ _ _ _ _ :: _) _ _); refine wpList_app8 _ rfl _ _ 34 rfl _ 5 u8ok (.slice (some ⟨_, 0, none⟩) 0 0) [] rfl (ownBs_litNil (by simp) (Nat.le_refl _)) _ b rfl ((K1.out.r 0 rfl).alloc _) (by have := Hl.out; simp; omega) (by simp) ?_; intro v2 w2 hown hb hg2 hat2; rw [List.nil_append] at hown; clear hg2 hat2; have K2 := hid ((K1.out.step ((below_alloc _ _).trans hb)).add hown.bs); clear hown hb)
    | (go_at_call 15; refine (of_any ip port _ b _ (K2.out.r 0 rfl) Hl.out).mono ?_; rintro e w3 ⟨rfl, hb⟩; rw [HO.out]; have K3 := hid (((K2.out.step hb).step (below_alloc _ (.cells #[.int .u32 (k1 : Int), .int .i64 k2, .int .u32 (k3 : Int), .int .u32 (k4 : Int), .int .u32 (k5 : Int)] 33))).addB (Blk.new _ 33 #[.int .u32 (k1 : Int), .int .i64 k2, .int .u32 (k3 : Int), .int .u32 (k4 : Int), .int .u32 (k5 : Int)])); clear hb; dsimp only [DKey.val, DKey.cells])
    | (go_at_call 16; refine (rof_any ip port _ b _ (K3.out.r 1 rfl) Hl.out).mono ?_; rintro e w4 ⟨rfl, hb⟩; rw [HO.out]; have K4 := hid (((K3.out.step hb).step (below_alloc _ (.cells #[.int .u32 (k1 : Int), .int .i64 k2, .int .u32 (k3 : Int), .int .u32 (k4 : Int), .int .u32 (k5 : Int)] 40))).addB (Blk.new _ 40 #[.int .u32 (k1 : Int), .int .i64 k2, .int .u32 (k3 : Int), .int .u32 (k4 : Int), .int .u32 (k5 : Int)])); clear hb; dsimp only [DKey.val, DKey.cells]))
  generalize w' = wz at *
  have HT := fun wx => theirs_any ⟨k1, k2, k3, k4, k5⟩ wx
  dsimp only [DKey.val, DKey.cells] at HT
  go_region_held3 (fun wr => wr.cell? ⟨w3.heap.size, 0, none⟩ = some (.int .u32 (k1 : Int)) ∧ wr.cell? ⟨w3.heap.size, 1, none⟩ = some (.int .i64 k2) ∧ wr.cell? ⟨w3.heap.size, 2, none⟩ = some (.int .u32 (k3 : Int)) ∧ wr.cell? ⟨w3.heap.size, 3, none⟩ = some (.int .u32 (k4 : Int)) ∧ wr.cell? ⟨w3.heap.size, 4, none⟩ = some (.int .u32 (k5 : Int)) ∧ wr.cell? ⟨w4.heap.size, 0, none⟩ = some (.int .u32 (k1 : Int)) ∧ wr.cell? ⟨w4.heap.size, 1, none⟩ = some (.int .i64 k2) ∧ wr.cell? ⟨w4.heap.size, 2, none⟩ = some (.int .u32 (k3 : Int)) ∧ wr.cell? ⟨w4.heap.size, 3, none⟩ = some (.int .u32 (k4 : Int)) ∧ wr.cell? ⟨w4.heap.size, 4, none⟩ = some (.int .u32 (k5 : Int))) (first | exact cells10 ((K5.out.b 1 rfl)) ((K5.out.b 0 rfl)) | exact cells10 ((K4.out.b 1 rfl).drew) ((K4.out.b 0 rfl).drew)) (first
    | (go_at_call 11; (with_reducible refine (HT _).mono ?_); rintro e w5 ⟨rfl, hb⟩; have K5 := hid (K4.out.step ((below_drew _).trans hb)); clear hb)
    | fail)
  by_cases hc : code = 0
  case neg =>
    have gc : (code != 0) = true := by simpa using hc
    go_wp2_with fail
    go_ret
    exact ⟨rfl, K5.out.bel⟩
  subst hc
  have h24 : 24 ≤ n := by
    have e := HO.out
    unfold drcOf at e
    by_cases q : b.length < 24
    · rw [if_pos q] at e
      injection e with _ e
      exact absurd e (by decide)
    · have := Hn.out; omega
  by_cases hy : y.toNat = 0
  · have gy : ((y.toNat : Int) == 0) = true := by simp; omega
    go_wp2_with fail
    go_ret
    exact ⟨rfl, K5.out.bel⟩
  have gy : ((y.toNat : Int) == 0) = false := by simp; omega
  have hm0 : (at_.tmod (n : Int)).natAbs < n := by rw [Int.natAbs_tmod]; exact Nat.mod_lt _ (by omega)
  have hne : (n : Int) ≠ 0 := by omega
  have hw0 : IntKind.i64.wrap (at_.tmod (n : Int)) = at_.tmod (n : Int) := IntWalk.i64_in _ (by omega)
  obtain ⟨i, hi, hcase⟩ : ∃ i : Nat, i < n ∧ (at_.tmod (n : Int) = (i : Int) ∨ (at_.tmod (n : Int) < 0 ∧ IntKind.i64.wrap (0 - at_.tmod (n : Int)) = (i : Int))) := by
    by_cases q : at_.tmod (n : Int) < 0
    · exact ⟨(0 - at_.tmod (n : Int)).toNat, by omega, .inr ⟨q, by rw [IntWalk.i64_in _ (by omega)]; omega⟩⟩
    · exact ⟨(at_.tmod (n : Int)).toNat, by omega, .inl (by omega)⟩
  have hiI : (i : Int) < (n : Int) := by omega
  generalize hw5 : w5 = wv at *
  go_upto_region 13 with ((with_reducible show wpList _ _ _ (Oper.mk (some 61) _ _ _ _ _ :: _) _ _); refine wpList_app8 _ rfl _ _ 34 rfl _ 5 u8ok (.slice (some ⟨_, 0, none⟩) 0 0) [] rfl (ownBs_litNil (by simp) (Nat.le_refl _)) _ b rfl ((K5.out.r 1 rfl).alloc _) (by have := Hl.out; simp; omega) (by simp) ?_; intro v6 w6 hown hb hg2 hat2; rw [List.nil_append] at hown; clear hg2 hat2; obtain ⟨g6, cap6, hv6, q1, q2, q3⟩ := own_open hown (by rw [Hn.out]; omega); rw [Hn.out] at hv6; subst hv6; have K6 := hid (K5.out.step ((below_alloc _ _).trans hb)); have H6 := hid hown; have Hb6 := hid ((below_alloc _ _).trans hb); have Hq2 := hid q2; clear hown hb q1 q2 q3)
  have hib : i < b.length := by rw [Hn.out]; exact hi
  have hbl : 24 ≤ b.length := by rw [Hn.out]; exact h24
  obtain ⟨hcell, hfroz⟩ := own_cell H6.out i hib
  unfold u8v at hcell
  obtain ⟨x, hwr, hx⟩ := u8_plus b[i] y hy
  obtain ⟨O7, G7⟩ := own_set H6.out i x (.int .u8 (x.toNat : Int)) rfl
  have HQ := hid (drcOf_turned ip port b hbl i hib x hx)
  have HCl := hid (show (b.set i x).length ≤ 1099511627776 by rw [List.length_set]; exact Hl.out)
  have HOb := drcOf_key ip port b hbl
  rw [HO.out] at HOb
  injection HOb with e1 e2
  injection e1 with e1 e2 e3 e4 e5
  have HOc := hid (drcOf_key ip port (b.set i x) (by rw [List.length_set]; exact hbl))
  obtain ⟨ip2, hip2⟩ : ∃ z : Nat, IntKind.u32.wrap ((ip : Int) + 1) = (z : Int) := ⟨(IntKind.u32.wrap ((ip : Int) + 1)).toNat, by rw [IntKind.wrap_u32]; omega⟩
  have hipn : ip2 ≠ ip := by rw [IntKind.wrap_u32] at hip2; omega
  obtain ⟨port2, hport2⟩ : ∃ z, bits .xor .i64 port 1 = z := ⟨_, rfl⟩
  have hportn : port2 ≠ port := by rw [← hport2]; exact xor_one port
  have HOi := hid (drcOf_key ip2 port b hbl)
  have HOp := hid (drcOf_key ip port2 b hbl)
  rw [← e3, ← e4, ← e5] at HOi HOp
  have hs0 : uAt4 (b.set i x) 0 = uAt4 (b.set i x) 0 := rfl
  rw [HO.out, HOc.out] at HQ
  generalize uAt4 (b.set i x) 0 = c3 at *
  generalize uAt4 (b.set i x) 20 = c4 at *
  generalize crc (b.set i x) = c5 at *
  subst e1; subst e2
  clear e3 e4 e5 hs0
  have K7 := hid ((K5.out.step (below_own Hb6.out G7 Hq2.out Hb6.out.size)).add O7.bs)
  clear O7 G7
  generalize b.set i x = C at *
  obtain ⟨w7, hw7⟩ : ∃ q, w6.setCell ⟨g6, i, none⟩ (.int .u8 (x.toNat : Int)) = q := ⟨_, rfl⟩
  rw [hw7] at K7
  rcases hcase with hI | ⟨hneg, hI⟩
  · generalize at_.tmod (n : Int) = r at *
    subst hI
    clear hiI
    have hiI : (i : Int) < (n : Int) := by omega
    have hi0 : ¬ (i : Int) < 0 := by omega
    go_upto_region 16 with (fail)
    go_upto_region 19 with (first
      | (go_at_call 15; (with_reducible refine (of_any k1 k2 _ C _ (K7.out.r 0 rfl) HCl.out).mono ?_); rintro e w8 ⟨rfl, hb⟩; rw [HOc.out]; have K8 := hid (((K7.out.step hb).step (below_alloc _ (.cells #[.int .u32 (k1 : Int), .int .i64 k2, .int .u32 (c3 : Int), .int .u32 (c4 : Int), .int .u32 (c5 : Int)] 33))).addB (Blk.new _ 33 #[.int .u32 (k1 : Int), .int .i64 k2, .int .u32 (c3 : Int), .int .u32 (c4 : Int), .int .u32 (c5 : Int)])); clear hb; dsimp only [DKey.val, DKey.cells])
      | (go_at_call 15; (with_reducible refine (of_any ip2 k2 _ b _ (K8.out.r 2 rfl) Hl.out).mono ?_); rintro e w9 ⟨rfl, hb⟩; rw [HOi.out]; have K9 := hid (((K8.out.step hb).step (below_alloc _ (.cells #[.int .u32 (ip2 : Int), .int .i64 k2, .int .u32 (k3 : Int), .int .u32 (k4 : Int), .int .u32 (k5 : Int)] 33))).addB (Blk.new _ 33 #[.int .u32 (ip2 : Int), .int .i64 k2, .int .u32 (k3 : Int), .int .u32 (k4 : Int), .int .u32 (k5 : Int)])); clear hb; dsimp only [DKey.val, DKey.cells])
      | (go_at_call 15; (with_reducible refine (of_any k1 port2 _ b _ (K9.out.r 2 rfl) Hl.out).mono ?_); rintro e w10 ⟨rfl, hb⟩; rw [HOp.out]; have K10 := hid (((K9.out.step hb).step (below_alloc _ (.cells #[.int .u32 (k1 : Int), .int .i64 port2, .int .u32 (k3 : Int), .int .u32 (k4 : Int), .int .u32 (k5 : Int)] 33))).addB (Blk.new _ 33 #[.int .u32 (k1 : Int), .int .i64 port2, .int .u32 (k3 : Int), .int .u32 (k4 : Int), .int .u32 (k5 : Int)])); clear hb; dsimp only [DKey.val, DKey.cells]))
    clear hw7 hcell hfroz
    have q1 : ¬ (ip2 : Int) = (k1 : Int) := by omega
    have q2 : decide ((ip2 : Int) = (k1 : Int)) = false := decide_eq_false q1
    have q3 : ((ip2 : Int) == (k1 : Int)) = false := by simp; omega
    have q5 : decide (port2 = k2) = false := decide_eq_false hportn
    have q6 : (port2 == k2) = false := by simpa using hportn
    generalize (w10.alloc (.cells #[.int .u32 (k1 : Int), .int .i64 port2, .int .u32 (k3 : Int), .int .u32 (k4 : Int), .int .u32 (k5 : Int)] 33)) = wq at K10 ⊢
    obtain ⟨y0, y1, y2, y3, y4, x0, x1, x2, x3, x4⟩ := cells10 (K10.out.b 2 rfl) (K10.out.b 4 rfl)
    obtain ⟨z0, z1, z2, z3, z4, u0, u1, u2, u3, u4⟩ := cells10 (K10.out.b 1 rfl) (K10.out.b 0 rfl)
    by_cases f3 : c3 = k3
    case neg =>
      have g1 : ¬ ((c3 : Int)) = ((k3 : Int)) := by omega
      have g2 : decide (((c3 : Int)) = ((k3 : Int))) = false := decide_eq_false g1
      have g3 : (((c3 : Int)) == ((k3 : Int))) = false := by simp; omega
      clear f3
      go_wp2
      go_ret
      exact ⟨rfl, K10.out.bel⟩
    subst f3
    by_cases f4 : c4 = k4
    case neg =>
      have g1 : ¬ ((c4 : Int)) = ((k4 : Int)) := by omega
      have g2 : decide (((c4 : Int)) = ((k4 : Int))) = false := decide_eq_false g1
      have g3 : (((c4 : Int)) == ((k4 : Int))) = false := by simp; omega
      clear f4
      go_wp2
      go_ret
      exact ⟨rfl, K10.out.bel⟩
    subst f4
    by_cases f5 : c5 = k5
    · exact absurd (by rw [f5]) HQ.out
    have g1 : ¬ (c5 : Int) = (k5 : Int) := by omega
    have g2 : decide ((c5 : Int) = (k5 : Int)) = false := decide_eq_false g1
    have g3 : ((c5 : Int) == (k5 : Int)) = false := by simp; omega
    clear f5
    go_wp2
    go_ret
    exact ⟨rfl, K10.out.bel⟩
  · generalize at_.tmod (n : Int) = r at *
    rw [IntWalk.i64_in _ (by omega)] at hI
    obtain rfl : r = -(i : Int) := by omega
    have hneg2 : decide (-(i : Int) < 0) = true := decide_eq_true hneg
    have hneg3 : (0 : Int) < (i : Int) := by omega
    have hneg4 : 0 < i := by omega
    have hwi : IntKind.i64.wrap (i : Int) = (i : Int) := IntWalk.i64_in _ (by omega)
    have hwi2 : IntKind.i64.wrap (0 - -(i : Int)) = (i : Int) := by rw [IntWalk.i64_in _ (by omega)]; omega
    clear hI hm0
    go_upto_region 16 with (fail)
    go_upto_region 19 with (first
      | (go_at_call 15; (with_reducible refine (of_any k1 k2 _ C _ (K7.out.r 0 rfl) HCl.out).mono ?_); rintro e w8 ⟨rfl, hb⟩; rw [HOc.out]; have K8 := hid (((K7.out.step hb).step (below_alloc _ (.cells #[.int .u32 (k1 : Int), .int .i64 k2, .int .u32 (c3 : Int), .int .u32 (c4 : Int), .int .u32 (c5 : Int)] 33))).addB (Blk.new _ 33 #[.int .u32 (k1 : Int), .int .i64 k2, .int .u32 (c3 : Int), .int .u32 (c4 : Int), .int .u32 (c5 : Int)])); clear hb; dsimp only [DKey.val, DKey.cells])
      | (go_at_call 15; (with_reducible refine (of_any ip2 k2 _ b _ (K8.out.r 2 rfl) Hl.out).mono ?_); rintro e w9 ⟨rfl, hb⟩; rw [HOi.out]; have K9 := hid (((K8.out.step hb).step (below_alloc _ (.cells #[.int .u32 (ip2 : Int), .int .i64 k2, .int .u32 (k3 : Int), .int .u32 (k4 : Int), .int .u32 (k5 : Int)] 33))).addB (Blk.new _ 33 #[.int .u32 (ip2 : Int), .int .i64 k2, .int .u32 (k3 : Int), .int .u32 (k4 : Int), .int .u32 (k5 : Int)])); clear hb; dsimp only [DKey.val, DKey.cells])
      | (go_at_call 15; (with_reducible refine (of_any k1 port2 _ b _ (K9.out.r 2 rfl) Hl.out).mono ?_); rintro e w10 ⟨rfl, hb⟩; rw [HOp.out]; have K10 := hid (((K9.out.step hb).step (below_alloc _ (.cells #[.int .u32 (k1 : Int), .int .i64 port2, .int .u32 (k3 : Int), .int .u32 (k4 : Int), .int .u32 (k5 : Int)] 33))).addB (Blk.new _ 33 #[.int .u32 (k1 : Int), .int .i64 port2, .int .u32 (k3 : Int), .int .u32 (k4 : Int), .int .u32 (k5 : Int)])); clear hb; dsimp only [DKey.val, DKey.cells]))
    clear hw7 hcell hfroz
    have q1 : ¬ (ip2 : Int) = (k1 : Int) := by omega
    have q2 : decide ((ip2 : Int) = (k1 : Int)) = false := decide_eq_false q1
    have q3 : ((ip2 : Int) == (k1 : Int)) = false := by simp; omega
    have q5 : decide (port2 = k2) = false := decide_eq_false hportn
    have q6 : (port2 == k2) = false := by simpa using hportn
    generalize (w10.alloc (.cells #[.int .u32 (k1 : Int), .int .i64 port2, .int .u32 (k3 : Int), .int .u32 (k4 : Int), .int .u32 (k5 : Int)] 33)) = wq at K10 ⊢
    obtain ⟨y0, y1, y2, y3, y4, x0, x1, x2, x3, x4⟩ := cells10 (K10.out.b 2 rfl) (K10.out.b 4 rfl)
    obtain ⟨z0, z1, z2, z3, z4, u0, u1, u2, u3, u4⟩ := cells10 (K10.out.b 1 rfl) (K10.out.b 0 rfl)
    by_cases f3 : c3 = k3
    case neg =>
      have g1 : ¬ ((c3 : Int)) = ((k3 : Int)) := by omega
      have g2 : decide (((c3 : Int)) = ((k3 : Int))) = false := decide_eq_false g1
      have g3 : (((c3 : Int)) == ((k3 : Int))) = false := by simp; omega
      clear f3
      go_wp2
      go_ret
      exact ⟨rfl, K10.out.bel⟩
    subst f3
    by_cases f4 : c4 = k4
    case neg =>
      have g1 : ¬ ((c4 : Int)) = ((k4 : Int)) := by omega
      have g2 : decide (((c4 : Int)) = ((k4 : Int))) = false := decide_eq_false g1
      have g3 : (((c4 : Int)) == ((k4 : Int))) = false := by simp; omega
      clear f4
      go_wp2
      go_ret
      exact ⟨rfl, K10.out.bel⟩
    subst f4
    by_cases f5 : c5 = k5
    · exact absurd (by rw [f5]) HQ.out
    have g1 : ¬ (c5 : Int) = (k5 : Int) := by omega
    have g2 : decide ((c5 : Int) = (k5 : Int)) = false := decide_eq_false g1
    have g3 : ((c5 : Int) == (k5 : Int)) = false := by simp; omega
    clear f5
    go_wp2
    go_ret
    exact ⟨rfl, K10.out.bel⟩
theorem drcKeys_walkN (v : Value) (b : List UInt8) (ip : Nat) (port at_ : Int) (y : Nat) (w : World) (h : Bs w v b) (hip : (ip : Int) ≤ 4294967295) (hp1 : -9223372036854775808 ≤ port) (hp2 : port ≤ 9223372036854775807) (hy : (y : Int) ≤ 255) :
    Calls Try.prog 5 #[.int .u32 (ip : Int), .int .i64 port, v, .int .i64 at_, .int .u8 (y : Int)] w fun e w' => e = .returned (.bool true) ∧ Below w.heap.size w w' := by
  have e : ((UInt8.ofNat y).toNat : Int) = (y : Int) := by rw [UInt8.toNat_ofNat']; omega
  rw [← e]
  exact drcKeys_walk v b ip port at_ _ w h (by omega) hp1 hp2
end Go.Proofs.Ytkgeccmpekclcaa
