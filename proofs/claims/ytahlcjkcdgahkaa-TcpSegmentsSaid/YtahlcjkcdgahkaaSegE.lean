/- Contract of the document's pseudo. -/
import Derived.Test.YtahlcjkcdgahkaaSegA
namespace Go.Proofs.Ytahlcjkcdgahkaa
open Go Go.RowKit
attribute [local go_sem ↓] Go.wp_at_zero Go.wp_at_succ
set_option maxRecDepth 100000

theorem rhigh_at (v : Value) (b : List UInt8) (p xi : Int) (m x : Nat) (w : World) (base : Nat) (h : OwnBs w base 5 v b) (hp : p = m) (hx : xi = x) (hbase : base ≤ w.heap.size) (hm : m ≤ 8) (hsize : b.length ≤ 190000000000000) :
    Calls Try.prog 61 #[v, .int .i64 p, .int .u64 xi] w fun e w' => ∃ v', e = .returned v' ∧ OwnBs w' base 5 v' (b ++ beBytes m x) ∧ Below base w w' := by
  subst hp; subst hx
  exact rhigh_any v b m x w base h hbase hm hsize
theorem segHead_eq (src dst n : Nat) : beBytes 4 src ++ beBytes 4 dst ++ [0, 6] ++ beBytes 2 n = segHead src dst n := by
  unfold segHead
  have e1 : beBytes 2 6 = [0, 6] := by decide
  have e2 : beBytes 2 (n % 65536) = beBytes 2 n := by
    simp only [beBytes, List.range_succ, List.range_zero, List.nil_append, List.map_cons, List.map_nil, List.cons_append]
    congr 1
    · apply UInt8.toNat_inj.1
      simp only [UInt8.toNat_ofNat']
      omega
    · congr 1
      apply UInt8.toNat_inj.1
      simp only [UInt8.toNat_ofNat']
      omega
  rw [e1, e2]
set_option maxHeartbeats 2000000 in
theorem rpseudo_any (src dst n : Nat) (w : World) (hs : src < 4294967296) (hd : dst < 4294967296) (hn : n < 1000000000) :
    Calls Try.prog 58 #[.int .u32 src, .int .u32 dst, .int .i64 n] w fun e w' => ∃ v', e = .returned v' ∧ OwnBs w' w.heap.size 5 v' (segHead src dst n) ∧ Below w.heap.size w w' := by
  have w6 : IntKind.u64.wrap (src : Int) = (src : Int) := IntWalk.u64_in _ (by omega)
  have w7 : IntKind.u64.wrap (dst : Int) = (dst : Int) := IntWalk.u64_in _ (by omega)
  have w8 : IntKind.u64.wrap (n : Int) = (n : Int) := IntWalk.u64_in _ (by omega)
  rw [← segHead_eq]
  go_enter Try.func58, Try.ntmps58
  go_wp2_with fail
  refine (rhigh_at (.slice none 0 0) [] 4 (src : Int) 4 src w w.heap.size (OwnBs.nil _ _ _) rfl rfl (Nat.le_refl _) (by decide) (by simp)).mono ?_
  rintro e w1 ⟨v1, rfl, hown, hb1⟩
  rw [List.nil_append] at hown
  have H1 := hid hown
  have Hb1 := hid hb1
  clear hown hb1
  go_wp2_with fail
  refine (rhigh_at v1 (beBytes 4 src) 4 (dst : Int) 4 dst w1 w.heap.size H1.out rfl rfl Hb1.out.size (by decide) (by simp [beBytes_len])).mono ?_
  rintro e w2 ⟨v2, rfl, hown, hb2⟩
  have H2 := hid hown
  have Hb2 := hid (Hb1.out.trans hb2)
  clear hown hb2
  go_wp2_with ((with_reducible show wpList _ _ _ (Oper.mk (some 16) _ _ _ _ _ :: _) _ _); refine wpList_app8 _ rfl _ _ 28 rfl w.heap.size 5 u8ok _ (beBytes 4 src ++ beBytes 4 dst) rfl (H2.out.alloc _) _ [0, 6] rfl (bs_litm #[.int .u8 0, .int .u8 6] [0, 6] 2 _ rfl rfl (by decide) (by simp)) (by simp [beBytes_len]) (by have := Hb2.out.size; simp; omega) ?_; intro v3 w3 hown hb3 hg3 hat3; have H3 := hid hown; have Hb3 := hid ((below_alloc' Hb2.out _).trans hb3); clear hown hb3 hg3 hat3)
  refine (rhigh_at v3 (beBytes 4 src ++ beBytes 4 dst ++ [0, 6]) 2 (n : Int) 2 n w3 w.heap.size H3.out rfl rfl Hb3.out.size (by decide) (by simp [beBytes_len])).mono ?_
  rintro e w4 ⟨v4, rfl, hown, hb4⟩
  have H4 := hid hown
  have Hb4 := hid (Hb3.out.trans hb4)
  clear hown hb4
  go_wp2_with fail
  go_ret
  exact ⟨_, rfl, H4.out, Hb4.out⟩
end Go.Proofs.Ytahlcjkcdgahkaa
