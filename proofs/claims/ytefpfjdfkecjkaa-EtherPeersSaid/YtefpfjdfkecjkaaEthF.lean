/- Contract of the document's Write. -/
import Derived.Test.YtefpfjdfkecjkaaEthE
namespace Go.Proofs.Ytefpfjdfkecjkaa
open Go Go.RowKit
attribute [local go_sem ↓] Go.wp_at_zero Go.wp_at_succ
set_option maxRecDepth 100000

theorem blk13 {w : World} {g : Nat} {t : TypeId} {x0 x1 x2 x3 x4 x5 x6 x7 x8 x9 x10 x11 x12 x13 : Value} (h : Blk w g t [x0, x1, x2, x3, x4, x5, x6, x7, x8, x9, x10, x11, x12, x13]) :
    w.cell? ⟨g, 0, none⟩ = some x0 ∧ w.cell? ⟨g, 1, none⟩ = some x1 ∧ w.cell? ⟨g, 2, none⟩ = some x2 ∧ w.cell? ⟨g, 3, none⟩ = some x3 ∧ w.cell? ⟨g, 4, none⟩ = some x4 ∧ w.cell? ⟨g, 5, none⟩ = some x5 ∧ w.cell? ⟨g, 6, none⟩ = some x6 ∧ w.cell? ⟨g, 7, none⟩ = some x7 ∧ w.cell? ⟨g, 8, none⟩ = some x8 ∧ w.cell? ⟨g, 9, none⟩ = some x9 ∧ w.cell? ⟨g, 10, none⟩ = some x10 ∧ w.cell? ⟨g, 11, none⟩ = some x11 ∧ w.cell? ⟨g, 12, none⟩ = some x12 :=
  ⟨h.cell 0, h.cell 1, h.cell 2, h.cell 3, h.cell 4, h.cell 5, h.cell 6, h.cell 7, h.cell 8, h.cell 9, h.cell 10, h.cell 11, h.cell 12⟩
set_option maxHeartbeats 2000000 in
theorem rwrite_any (f : Frm) (A : Option Addr) (n cap : Nat) (w : World) (h : Bs w (.slice A n cap) f.body) : Calls Try.prog 11 #[f.val (.slice A n cap)] w (WritePost f w) := by
  obtain ⟨⟨a0, a1, a2, a3, a4, a5⟩, ⟨b0, b1, b2, b3, b4, b5⟩, kind, body⟩ := f
  have hn : body.length = n := by obtain ⟨_, _, _, hv, _⟩ := h; injection hv with _ h2; exact h2.symm
  dsimp only [Frm.val, Frm.cells, Mac.cells, List.cons_append, List.nil_append] at h ⊢
  by_cases hk : kind < 0 ∨ kind > 65535
  · have Hp := hid (show eWrite ⟨⟨a0, a1, a2, a3, a4, a5⟩, ⟨b0, b1, b2, b3, b4, b5⟩, kind, body⟩ = ([], 1) by unfold eWrite; rw [if_pos hk])
    have t1 : kind < 0 ∨ ¬ kind < 0 ∧ kind > 65535 := by omega
    clear hk h hn
    rcases t1 with t1 | ⟨t1, t2⟩
    all_goals
      go_enter Try.func11, Try.ntmps11
      go_wp2_with fail
      go_ret2
      unfold WritePost
      rw [Hp.out]
      exact ⟨_, rfl, OwnBs.nil _ _ _, below_alloc w _⟩
  have t1 : ¬ kind < 0 := by omega
  have t2 : ¬ kind > 65535 := by omega
  obtain ⟨k, rfl⟩ : ∃ k : Nat, kind = k := ⟨kind.toNat, by omega⟩
  by_cases hlong : n > 1500
  · have Hp := hid (show eWrite ⟨⟨a0, a1, a2, a3, a4, a5⟩, ⟨b0, b1, b2, b3, b4, b5⟩, k, body⟩ = ([], 14) by unfold eWrite; rw [if_neg hk, if_pos (by rw [hn]; exact hlong)])
    have t3 : (n : Int) > 1500 := by omega
    clear hk h hn
    go_enter Try.func11, Try.ntmps11
    go_wp2_with fail
    go_ret2
    unfold WritePost
    rw [Hp.out]
    exact ⟨_, rfl, OwnBs.nil _ _ _, below_alloc w _⟩
  have t3 : ¬ (n : Int) > 1500 := by omega
  have Hp := hid (show eWrite ⟨⟨a0, a1, a2, a3, a4, a5⟩, ⟨b0, b1, b2, b3, b4, b5⟩, k, body⟩ = ((Mac.mk a0 a1 a2 a3 a4 a5).bytes ++ ((Mac.mk b0 b1 b2 b3 b4 b5).bytes ++ (beBytes 2 k ++ body)), 0) by unfold eWrite; rw [if_neg hk, if_neg (by rw [hn]; exact hlong)]; simp)
  have HB := hid (h.alloc (.cells #[.int .u8 (a0.toNat : Int), .int .u8 (a1.toNat : Int), .int .u8 (a2.toNat : Int), .int .u8 (a3.toNat : Int), .int .u8 (a4.toNat : Int), .int .u8 (a5.toNat : Int), .int .u8 (b0.toNat : Int), .int .u8 (b1.toNat : Int), .int .u8 (b2.toNat : Int), .int .u8 (b3.toNat : Int), .int .u8 (b4.toNat : Int), .int .u8 (b5.toNat : Int), .int .i64 (k : Int), .slice A n cap] 30))
  have Bk := hid (Blk.new w 30 #[.int .u8 (a0.toNat : Int), .int .u8 (a1.toNat : Int), .int .u8 (a2.toNat : Int), .int .u8 (a3.toNat : Int), .int .u8 (a4.toNat : Int), .int .u8 (a5.toNat : Int), .int .u8 (b0.toNat : Int), .int .u8 (b1.toNat : Int), .int .u8 (b2.toNat : Int), .int .u8 (b3.toNat : Int), .int .u8 (b4.toNat : Int), .int .u8 (b5.toNat : Int), .int .i64 (k : Int), .slice A n cap])
  have HW := hid (below_alloc w (.cells #[.int .u8 (a0.toNat : Int), .int .u8 (a1.toNat : Int), .int .u8 (a2.toNat : Int), .int .u8 (a3.toNat : Int), .int .u8 (a4.toNat : Int), .int .u8 (a5.toNat : Int), .int .u8 (b0.toNat : Int), .int .u8 (b1.toNat : Int), .int .u8 (b2.toNat : Int), .int .u8 (b3.toNat : Int), .int .u8 (b4.toNat : Int), .int .u8 (b5.toNat : Int), .int .i64 (k : Int), .slice A n cap] 30))
  have Hsz := hid (show (w.alloc (.cells #[.int .u8 (a0.toNat : Int), .int .u8 (a1.toNat : Int), .int .u8 (a2.toNat : Int), .int .u8 (a3.toNat : Int), .int .u8 (a4.toNat : Int), .int .u8 (a5.toNat : Int), .int .u8 (b0.toNat : Int), .int .u8 (b1.toNat : Int), .int .u8 (b2.toNat : Int), .int .u8 (b3.toNat : Int), .int .u8 (b4.toNat : Int), .int .u8 (b5.toNat : Int), .int .i64 (k : Int), .slice A n cap] 30)).heap.size = w.heap.size + 1 by simp)
  have Hn := hid hn
  have hkw : IntKind.u64.wrap (k : Int) = (k : Int) := IntWalk.u64_in _ (by omega)
  clear h hk hn hlong
  go_enter Try.func11, Try.ntmps11
  go_upto_region 5 with fail
  generalize w.alloc (.cells #[.int .u8 (a0.toNat : Int), .int .u8 (a1.toNat : Int), .int .u8 (a2.toNat : Int), .int .u8 (a3.toNat : Int), .int .u8 (a4.toNat : Int), .int .u8 (a5.toNat : Int), .int .u8 (b0.toNat : Int), .int .u8 (b1.toNat : Int), .int .u8 (b2.toNat : Int), .int .u8 (b3.toNat : Int), .int .u8 (b4.toNat : Int), .int .u8 (b5.toNat : Int), .int .i64 (k : Int), .slice A n cap] 30) = wz at *
  have hkI : (k : Int) < 65536 := by omega
  have HP1 := fun wx => put_any (.slice none 0 0) [] ⟨a0, a1, a2, a3, a4, a5⟩ wx wz.heap.size (OwnBs.nil _ _ _)
  have HP2 := fun wx v (h : OwnBs wx wz.heap.size 5 v (Mac.mk a0 a1 a2 a3 a4 a5).bytes) => put_any v _ ⟨b0, b1, b2, b3, b4, b5⟩ wx wz.heap.size h
  dsimp only [Mac.val, Mac.cells] at HP1 HP2
  go_region_held3 (fun wy => wy.cell? ⟨w.heap.size, 0, none⟩ = some (.int .u8 (a0.toNat : Int)) ∧ wy.cell? ⟨w.heap.size, 1, none⟩ = some (.int .u8 (a1.toNat : Int)) ∧ wy.cell? ⟨w.heap.size, 2, none⟩ = some (.int .u8 (a2.toNat : Int)) ∧ wy.cell? ⟨w.heap.size, 3, none⟩ = some (.int .u8 (a3.toNat : Int)) ∧ wy.cell? ⟨w.heap.size, 4, none⟩ = some (.int .u8 (a4.toNat : Int)) ∧ wy.cell? ⟨w.heap.size, 5, none⟩ = some (.int .u8 (a5.toNat : Int)) ∧ wy.cell? ⟨w.heap.size, 6, none⟩ = some (.int .u8 (b0.toNat : Int)) ∧ wy.cell? ⟨w.heap.size, 7, none⟩ = some (.int .u8 (b1.toNat : Int)) ∧ wy.cell? ⟨w.heap.size, 8, none⟩ = some (.int .u8 (b2.toNat : Int)) ∧ wy.cell? ⟨w.heap.size, 9, none⟩ = some (.int .u8 (b3.toNat : Int)) ∧ wy.cell? ⟨w.heap.size, 10, none⟩ = some (.int .u8 (b4.toNat : Int)) ∧ wy.cell? ⟨w.heap.size, 11, none⟩ = some (.int .u8 (b5.toNat : Int)) ∧ wy.cell? ⟨w.heap.size, 12, none⟩ = some (.int .i64 (k : Int))) ((first | exact blk13 Bk.out | exact blk13 (Bk.out.drew) | exact blk13 Bk3.out | exact blk13 (Bk3.out.drew) | exact blk13 Bk4.out | exact blk13 (Bk4.out.drew) | exact blk13 Bk5.out | exact blk13 (Bk5.out.drew))) (first
    | (go_at_call 29; (with_reducible refine (HP1 _ (by first | exact Nat.le_refl _ | exact (below_drew wz).size) (by simp)).mono ?_); rintro e w3 ⟨v3, rfl, hown, hb1⟩; rw [List.nil_append] at hown; have Hb3 := hid (show Below wz.heap.size wz w3 by first | exact hb1 | exact (below_drew _).trans hb1); have Hown3 := hid hown; have Bk3 := hid (Bk.out.keep Hb3.out); clear hown hb1)
    | (go_at_call 29; (with_reducible refine (HP2 _ v3 (by first | exact Hown3.out | exact Hown3.out.drew) (by first | exact Hb3.out.size | exact (Hb3.out.trans ((below_drew w3).mono Hb3.out.size)).size) (by simp [Mac.bytes])).mono ?_); rintro e w4 ⟨v4, rfl, hown, hb1⟩; have Hb4 := hid (show Below wz.heap.size wz w4 by first | exact Hb3.out.trans hb1 | exact (Hb3.out.trans ((below_drew w3).mono Hb3.out.size)).trans hb1); have Hown4 := hid hown; have Bk4 := hid (Bk.out.keep Hb4.out); clear hown hb1)
    | (go_at_call 28; (refine (rhigh_any v4 _ 2 k _ wz.heap.size (by first | exact Hown4.out | exact Hown4.out.drew) (by first | exact Hb4.out.size | exact (Hb4.out.trans ((below_drew w4).mono Hb4.out.size)).size) (by decide) (by simp [Mac.bytes])).mono ?_); rintro e w5 ⟨v5, rfl, hown, hb1⟩; have Hb5 := hid (show Below wz.heap.size wz w5 by first | exact Hb4.out.trans hb1 | exact (Hb4.out.trans ((below_drew w4).mono Hb4.out.size)).trans hb1); have Hown5 := hid hown; have Bk5 := hid (Bk.out.keep Hb5.out); clear hown hb1)
    | fail)
  all_goals
    have d13 := Bk5.out.cell 13
    have hnl := Hn.out
    go_wp2_with ((with_reducible show wpList _ _ _ (Oper.mk (some 30) _ _ _ _ _ :: _) _ _); refine wpList_app8 _ rfl _ _ 22 rfl wz.heap.size 5 u8ok v5 _ rfl Hown5.out _ body rfl (HB.out.below Hb5.out) (by simp [Mac.bytes, beBytes_len]; omega) Hb5.out.size ?_; intro v6 w6 hown6 hb6 hg6 hat6; have Hown6 := hid hown6; have Hb6 := hid hb6; clear hown6 hb6 hg6 hat6)
    go_ret2
    unfold WritePost
    rw [Hp.out]
    refine ⟨_, rfl, ?_, HW.out.trans ((Hb5.out.trans Hb6.out).mono HW.out.size)⟩
    have := Hown6.out.mono (base' := w.heap.size) HW.out.size
    simpa using this
end Go.Proofs.Ytefpfjdfkecjkaa
