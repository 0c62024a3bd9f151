/- Contracts of tcp: sum, at; of the document's be. -/
import Derived.Test.YtahlcjkcdgahkaaSegS
import Derived.Laws.BitsAllLaws
namespace Go.Proofs.Ytahlcjkcdgahkaa
open Go Go.RowKit
attribute [local go_sem ↓] Go.wp_at_zero Go.wp_at_succ
set_option maxRecDepth 100000

theorem i64_mask16 (n : Int) : bits .and .i64 n 65535 = n % 65536 := by
  have h127 : (BitVec.ofInt 64 65535).toNat = 2 ^ 16 - 1 := by decide
  have key : (BitVec.ofInt 64 n &&& BitVec.ofInt 64 65535).toNat = (n % ((2 ^ 64 : Nat) : Int)).toNat % 2 ^ 16 := by
    rw [BitVec.toNat_and, BitVec.toNat_ofInt, h127, Nat.and_two_pow_sub_one_eq_mod]
  show IntKind.i64.wrap ((BitVec.ofInt 64 n &&& BitVec.ofInt 64 65535).toNat : Nat) = n % 65536
  rw [key, IntKind.wrap_i64]
  omega
theorem rows_twoA {w : World} {e : TypeId} {mk : Nat × Nat} {x y : Value} {a b : List UInt8} {H : Nat} (h1 : Bs w x a) (h2 : Bs w y b) (hH : H = w.heap.size) :
    Rows8 (w.alloc (.cells #[x, y] e mk)) (.slice (some ⟨H, 0, none⟩) 2 2) [a, b] :=
  ⟨[x, y], row_litm #[x, y] _ 2 H rfl rfl (by decide) hH, fun i p r g1 g2 => by
    match i with
    | 0 => simp at g1 g2; subst g1; subst g2; exact h1.alloc _
    | 1 => simp at g1 g2; subst g1; subst g2; exact h2.alloc _
    | i + 2 => simp at g1⟩
theorem cutOf_at (b : List UInt8) (i n : Nat) (p q : Int) (hp : p = i) (hq : q = n) (hn : okSize q = true) (hi : i + n ≤ b.length) : cutOf b p q = ((b.drop i).take n, 0) := by
  subst hp; subst hq
  have h : ¬((i : Int) < 0 ∨ (i : Int) > (b.length : Int) - (n : Int)) := by omega
  simp [cutOf, hn, if_neg h]
theorem tat_any (v : Value) (b : List UInt8) (i n val : Nat) (p q : Int) (w : World) (h : Bs w v b) (hp : p = i) (hq : q = n) (hn : n = 2 ∨ n = 4) (hi : i + n ≤ b.length) (hv : sAt b i n = val) (hl : b.length ≤ 1099511627776) :
    Calls Try.prog 55 #[v, .int .i64 p, .int .i64 q] w fun e w' => e = .returned (.int .i64 (val : Int)) ∧ w = w' := by
  subst hp; subst hq
  have hok : okSize (n : Int) = true := by rcases hn with rfl | rfl <;> decide
  have hb := be_any v b i n w h (by omega) (by omega)
  rw [cutOf_at b i n i n rfl rfl hok hi] at hb
  have hlt := sAt_lt b i n
  have hv2 : beVal ((b.drop i).take n) = val := hv
  simp only [hv2] at hb
  rw [hv] at hlt
  have hlt2 : val < 4294967296 := by rcases hn with rfl | rfl <;> omega
  have Hb := hid hb
  clear hb hlt hv hv2 hok
  go_enter Try.func55, Try.ntmps55
  go_wp2_with (go_at_call 73; with_reducible refine Hb.out.mono ?_; rintro e w' ⟨rfl, rfl⟩)
  go_ret
  exact ⟨rfl, rfl⟩
theorem rtat_any (v : Value) (b : List UInt8) (i n val : Nat) (p q : Int) (w : World) (h : Bs w v b) (hp : p = i) (hq : q = n) (hn : n = 2 ∨ n = 4) (hi : i + n ≤ b.length) (hv : sAt b i n = val) (hl : b.length ≤ 1099511627776) :
    Calls Try.prog 60 #[v, .int .i64 p, .int .i64 q] w fun e w' => e = .returned (.int .i64 (val : Int)) ∧ w = w' := by
  subst hp; subst hq
  have hok : okSize (n : Int) = true := by rcases hn with rfl | rfl <;> decide
  have hb := rbe_any v b i n w h (by omega) (by omega)
  rw [cutOf_at b i n i n rfl rfl hok hi] at hb
  have hlt := sAt_lt b i n
  have hv2 : beVal ((b.drop i).take n) = val := hv
  simp only [hv2] at hb
  rw [hv] at hlt
  have hlt2 : val < 4294967296 := by rcases hn with rfl | rfl <;> omega
  have Hb := hid hb
  clear hb hlt hv hv2 hok
  go_enter Try.func60, Try.ntmps60
  go_wp2_with (go_at_call 74; with_reducible refine Hb.out.mono ?_; rintro e w' ⟨rfl, rfl⟩)
  go_ret
  exact ⟨rfl, rfl⟩

set_option maxHeartbeats 2000000 in
theorem tsum_any (v : Value) (b : List UInt8) (src dst sm : Nat) (w : World) (h : Bs w v b) (hl : b.length ≤ 1000000000) (hs : src < 4294967296) (hd : dst < 4294967296) (hsm : segSum src dst b = sm) :
    Calls Try.prog 53 #[.int .u32 src, .int .u32 dst, v] w fun e w' => e = .returned (.int .u16 (sm : Int)) ∧ Below w.heap.size w w' := by
  have Hb := hid h
  obtain ⟨ln, hln⟩ : ∃ n, b.length = n := ⟨_, rfl⟩
  obtain ⟨A, cap, rfl⟩ := slice_len h hln
  clear h
  obtain ⟨lm, hlm⟩ : ∃ n, ln % 65536 = n := ⟨_, rfl⟩
  have Hp1 := hid (put_fits beBytes [] 4 4 [src, dst] rfl (by decide) (by simp; omega))
  have Hp2 := hid (put_fits beBytes (beBytes 4 src ++ beBytes 4 dst) 2 2 [6, lm] rfl (by decide) (by simp; omega))
  have He1 := hid (show [] ++ [src, dst].flatMap (beBytes 4) = beBytes 4 src ++ beBytes 4 dst by simp)
  have He2 := hid (show (beBytes 4 src ++ beBytes 4 dst) ++ [6, lm].flatMap (beBytes 2) = segHead src dst b.length by simp [segHead, hln, hlm])
  rw [He1.out] at Hp1
  rw [He2.out] at Hp2
  have Hlen1 := hid (show (beBytes 4 src ++ beBytes 4 dst).length = 8 by simp [beBytes_len])
  have Hlen2 := hid (show (segHead src dst b.length).length = 12 by simp [segHead, beBytes_len])
  have Hs := hid (show inet [segHead src dst b.length, b].flatten = sm by rw [← hsm]; unfold segSum; simp only [List.flatten_cons, List.flatten_nil, List.append_nil])
  have Hfl := hid (show [segHead src dst b.length, b].flatten.length ≤ 1099511627776 by simp [Hlen2.out]; omega)
  have hmk : bits .and .i64 (ln : Int) 65535 = (lm : Int) := by rw [i64_mask16]; omega
  have hlmb : lm < 65536 := by omega
  clear He1 He2 hsm
  rw [hln] at Hp2 Hlen2 Hs Hfl
  clear hln hlm
  go_enter Try.func53, Try.ntmps53
  go_wp2_with fail
  refine (putBe_any _ [] 4 _ [src, dst] _ (Bs.nil _) (u64_lit #[.int .u64 (src : Int), .int .u64 (dst : Int)] [src, dst] _ _ rfl rfl (by simp) (by simp) (by simp; omega)) (by simp)).mono ?_
  rintro e w1 ⟨v1, rfl, hown, hb1⟩
  rw [Hp1.out] at hown ⊢
  have Hown := hid hown
  have Hb1 := hid ((below_alloc w _).trans (hb1.mono (by simp)))
  clear hown hb1
  simp only at Hown ⊢
  generalize beBytes 4 src ++ beBytes 4 dst = hd1 at *
  go_wp2_with fail
  refine (putBe_any _ hd1 2 _ [6, lm] _ (Hown.out.bs.alloc _) (u64_lit #[.int .u64 (6 : Int), .int .u64 (lm : Int)] [6, lm] _ _ rfl rfl (by simp) (by simp) (by simp; omega)) (by simp [Hlen1.out])).mono ?_
  rintro e w2 ⟨v2, rfl, hown2, hb2⟩
  rw [Hp2.out] at hown2 ⊢
  have Hown2 := hid hown2
  have Hb2 := hid ((below_alloc' Hb1.out _).trans (hb2.mono (by have := Hb1.out.size; simp; omega)))
  clear hown2 hb2
  simp only at Hown2 ⊢
  generalize segHead src dst ln = hd2 at *
  have Hb4 := hid (Hb.out.below Hb2.out)
  obtain ⟨A2, cap2, rfl⟩ := slice_len Hown2.out.bs Hlen2.out
  go_wp2_with fail
  refine (inet_any _ [hd2, b] _ (rows_twoA Hown2.out.bs Hb4.out rfl) Hfl.out).mono ?_
  rintro e w3 ⟨rfl, rfl⟩
  rw [Hs.out]
  go_wp2_with fail
  go_ret
  exact ⟨rfl, below_alloc' Hb2.out _⟩
end Go.Proofs.Ytahlcjkcdgahkaa
