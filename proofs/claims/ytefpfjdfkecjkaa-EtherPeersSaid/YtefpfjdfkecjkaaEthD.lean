/- Contract of the document's Parse. -/
import Derived.Test.YtefpfjdfkecjkaaEthC
namespace Go.Proofs.Ytefpfjdfkecjkaa
open Go Go.RowKit
attribute [local go_sem ↓] Go.wp_at_zero Go.wp_at_succ
set_option maxRecDepth 100000

theorem below_lit {w w' : World} {o : Obj} (h : Below (w.alloc o).heap.size (w.alloc o) w') : Below w.heap.size w w' := (below_alloc w o).trans (h.mono (by simp))
theorem lit_own {w w' : World} {e : TypeId} (h : Below (w.alloc (.cells #[] e)).heap.size (w.alloc (.cells #[] e)) w') : OwnBs w' w.heap.size e (.slice (some ⟨w.heap.size, 0, none⟩) 0 0) [] := (ownBs_litNil rfl (Nat.le_refl _)).below h
theorem rparse_bad (v : Value) (b : List UInt8) (w : World) (h : Bs w v b) (hb : b.length < 14 ∨ b.length > 1514) : Calls Try.prog 9 #[v] w (ParsePost b w) := by
  obtain ⟨n, hn⟩ : ∃ n, b.length = n := ⟨_, rfl⟩
  obtain ⟨A, cap, rfl⟩ := slice_len h hn
  have Hp := hid (show eParse b = (⟨.zero, .zero, 0, []⟩, 14) by unfold eParse; rw [if_pos hb])
  have t1 : (n : Int) < 14 ∨ ¬ (n : Int) < 14 ∧ (n : Int) > 1514 := by omega
  clear hn h hb
  rcases t1 with t1 | ⟨t1, t2⟩
  all_goals
    go_enter Try.func9, Try.ntmps9
    go_wp2_with fail
    refine ret_cell2 rfl _ _ _ _ rfl (Blk.new w 30 #[.int .u8 0, .int .u8 0, .int .u8 0, .int .u8 0, .int .u8 0, .int .u8 0, .int .u8 0, .int .u8 0, .int .u8 0, .int .u8 0, .int .u8 0, .int .u8 0, .int .i64 0, .slice none 0 0]) Try.underlying30 rframeinfo _ rfl rfl ?_
    unfold ParsePost
    rw [Hp.out]
    exact ⟨_, rfl, OwnBs.nil _ _ _, below_alloc w _⟩

theorem lays_rframe (a0 a1 a2 a3 a4 a5 b0 b1 b2 b3 b4 b5 k : Int) (A : Option Addr) (n c : Nat) : Lays Try.prog 30 #[.int .u8 a0, .int .u8 a1, .int .u8 a2, .int .u8 a3, .int .u8 a4, .int .u8 a5, .int .u8 b0, .int .u8 b1, .int .u8 b2, .int .u8 b3, .int .u8 b4, .int .u8 b5, .int .i64 k, .slice A n c] := ⟨rframeinfo, by simp [Value.oneCell']⟩
theorem fold_rframe (x y : Value) : Instr.storeAt 30 x y = storeG 30 x y := rfl
attribute [local go_sem ↓] fold_rframe
attribute [local go_sem] storeG_run lays_rframe
set_option maxHeartbeats 2000000 in
theorem rparse_any (v : Value) (b : List UInt8) (w : World) (h : Bs w v b) (hl : b.length ≤ 100000000) : Calls Try.prog 9 #[v] w (ParsePost b w) := by
  by_cases h1 : b.length < 14 ∨ b.length > 1514
  · exact rparse_bad v b w h h1
  have HB := hid h
  obtain ⟨n, hn⟩ : ∃ n, b.length = n := ⟨_, rfl⟩
  obtain ⟨A, cap, rfl⟩ := slice_len h hn
  have Hn := hid hn
  rw [hn] at h1
  have Hp := hid (show eParse b = (⟨macAt b 0, macAt b 6, (beVal ((b.drop 12).take 2) : Int), b.drop 14⟩, 0) by unfold eParse; rw [hn, if_neg (by omega)])
  have t1 : ¬ (n : Int) < 14 := by omega
  have t2 : ¬ (n : Int) > 1514 := by omega
  have hn14 : 14 ≤ n := by omega
  have t3 : (12 : Int) < (n : Int) := by omega
  have t4 : (13 : Int) < (n : Int) := by omega
  obtain ⟨_, hcap1, hcap2, k3⟩ := Bs.open h
  obtain ⟨g, off, rfl, hc⟩ : ∃ b' off, A = some ⟨b', off, none⟩ ∧ ∀ i, (hi : i < b.length) → w.cell? ⟨b', off + i, none⟩ = some (u8v b[i]) := by
    rcases k3 with k3 | k3
    · omega
    · exact k3
  have Hcut := hid (h.cut (l := 14) (k := n - 14) (by omega))
  rw [List.take_of_length_le (by simp; omega)] at Hcut
  have Hcut6 := hid (h.cut (l := 6) (k := n - 6) (by omega))
  rw [List.take_of_length_le (by simp; omega)] at Hcut6
  have s2 := cut8_from (some ⟨g, off, none⟩) n cap 6 6 (n - 6) rfl (by omega) hcap1
  have s3 := cut8_from (some ⟨g, off, none⟩) n cap 14 14 (n - 14) rfl (by omega) hcap1
  rw [cutA_at (by omega)] at s2
  rw [cutA_at (by omega)] at Hcut6
  obtain ⟨a0, a1, a2, a3, a4, a5, b0, b1, b2, b3, b4, b5, k0, k1, r, rfl⟩ := split14 b (by omega)
  have c12 : w.cell? ⟨g, off + 12, none⟩ = some (.int .u8 (k0.toNat : Int)) := hc 12 (by omega)
  have c13 : w.cell? ⟨g, off + 13, none⟩ = some (.int .u8 (k1.toNat : Int)) := hc 13 (by omega)
  have HD0 := hid (And.intro c12 c13)
  have d12 := cell_below (below_alloc w (.cells #[.int .u8 0, .int .u8 0, .int .u8 0, .int .u8 0, .int .u8 0, .int .u8 0, .int .u8 0, .int .u8 0, .int .u8 0, .int .u8 0, .int .u8 0, .int .u8 0, .int .i64 0, .slice none 0 0] 30)) c12
  have d13 := cell_below (below_alloc w (.cells #[.int .u8 0, .int .u8 0, .int .u8 0, .int .u8 0, .int .u8 0, .int .u8 0, .int .u8 0, .int .u8 0, .int .u8 0, .int .u8 0, .int .u8 0, .int .u8 0, .int .i64 0, .slice none 0 0] 30)) c13
  have hk0 := k0.toNat_lt
  have hk1 := k1.toNat_lt
  have v1 : IntKind.i64.wrap (256 * (k0.toNat : Int)) = 256 * (k0.toNat : Int) := IntWalk.i64_in _ (by omega)
  have v2 : IntKind.i64.wrap (256 * (k0.toNat : Int) + (k1.toNat : Int)) = 256 * (k0.toNat : Int) + (k1.toNat : Int) := IntWalk.i64_in _ (by omega)
  have Hkd := hid (show (beVal [k0, k1] : Int) = 256 * (k0.toNat : Int) + (k1.toNat : Int) by simp [beVal]; omega)
  have hr : r.length = n - 14 := by simp at hn; omega
  have Hr := hid hr
  clear hc hn h k3 h1 c12 c13 hr hk0 hk1
  go_enter Try.func9, Try.ntmps9
  go_upto_region 3 with fail
  have Bk := hid (Blk.new w 30 #[.int .u8 0, .int .u8 0, .int .u8 0, .int .u8 0, .int .u8 0, .int .u8 0, .int .u8 0, .int .u8 0, .int .u8 0, .int .u8 0, .int .u8 0, .int .u8 0, .int .i64 0, .slice none 0 0])
  have Hc0 := hid (HB.out.alloc (.cells #[.int .u8 0, .int .u8 0, .int .u8 0, .int .u8 0, .int .u8 0, .int .u8 0, .int .u8 0, .int .u8 0, .int .u8 0, .int .u8 0, .int .u8 0, .int .u8 0, .int .i64 0, .slice none 0 0] 30))
  have Hc1 := hid (show Bs (w.alloc (.cells #[.int .u8 0, .int .u8 0, .int .u8 0, .int .u8 0, .int .u8 0, .int .u8 0, .int .u8 0, .int .u8 0, .int .u8 0, .int .u8 0, .int .u8 0, .int .u8 0, .int .i64 0, .slice none 0 0] 30)) (.slice (cutA (some ⟨g, off, none⟩) cap 14 1) (n - 14) (cap - 14)) r from Hcut.out.alloc (.cells #[.int .u8 0, .int .u8 0, .int .u8 0, .int .u8 0, .int .u8 0, .int .u8 0, .int .u8 0, .int .u8 0, .int .u8 0, .int .u8 0, .int .u8 0, .int .u8 0, .int .i64 0, .slice none 0 0] 30))
  have Hc6 := hid (show Bs (w.alloc (.cells #[.int .u8 0, .int .u8 0, .int .u8 0, .int .u8 0, .int .u8 0, .int .u8 0, .int .u8 0, .int .u8 0, .int .u8 0, .int .u8 0, .int .u8 0, .int .u8 0, .int .i64 0, .slice none 0 0] 30)) (.slice (some ⟨g, off + 6, none⟩) (n - 6) (cap - 6)) (b0 :: b1 :: b2 :: b3 :: b4 :: b5 :: k0 :: k1 :: r) from Hcut6.out.alloc (.cells #[.int .u8 0, .int .u8 0, .int .u8 0, .int .u8 0, .int .u8 0, .int .u8 0, .int .u8 0, .int .u8 0, .int .u8 0, .int .u8 0, .int .u8 0, .int .u8 0, .int .i64 0, .slice none 0 0] 30))
  have HW := hid (below_alloc w (.cells #[.int .u8 0, .int .u8 0, .int .u8 0, .int .u8 0, .int .u8 0, .int .u8 0, .int .u8 0, .int .u8 0, .int .u8 0, .int .u8 0, .int .u8 0, .int .u8 0, .int .i64 0, .slice none 0 0] 30))
  have Hsz := hid (show (w.alloc (.cells #[.int .u8 0, .int .u8 0, .int .u8 0, .int .u8 0, .int .u8 0, .int .u8 0, .int .u8 0, .int .u8 0, .int .u8 0, .int .u8 0, .int .u8 0, .int .u8 0, .int .i64 0, .slice none 0 0] 30)).heap.size = w.heap.size + 1 by simp)
  have HD := hid (And.intro d12 d13)
  clear d12 d13
  generalize w.alloc (.cells #[.int .u8 0, .int .u8 0, .int .u8 0, .int .u8 0, .int .u8 0, .int .u8 0, .int .u8 0, .int .u8 0, .int .u8 0, .int .u8 0, .int .u8 0, .int .u8 0, .int .i64 0, .slice none 0 0] 30) = wz at *
  have v0 : IntKind.i64.wrap (k0.toNat : Int) = (k0.toNat : Int) := IntWalk.i64_in _ (by have := k0.toNat_lt; omega)
  have v3 : IntKind.i64.wrap (k1.toNat : Int) = (k1.toNat : Int) := IntWalk.i64_in _ (by have := k1.toNat_lt; omega)
  have HM1 : ∀ wx, Bs wx (.slice (some ⟨g, off, none⟩) n cap) (a0 :: a1 :: a2 :: a3 :: a4 :: a5 :: b0 :: b1 :: b2 :: b3 :: b4 :: b5 :: k0 :: k1 :: r) → Calls Try.prog 26 #[.slice (some ⟨g, off, none⟩) n cap] wx fun e w' => e = .returned (.agg #[.int .u8 (a0.toNat : Int), .int .u8 (a1.toNat : Int), .int .u8 (a2.toNat : Int), .int .u8 (a3.toNat : Int), .int .u8 (a4.toNat : Int), .int .u8 (a5.toNat : Int)]) ∧ Below wx.heap.size wx w' := fun wx hx => mac_any _ _ wx hx (by simp)
  have HM2 : ∀ wx, Bs wx (.slice (some ⟨g, off + 6, none⟩) (n - 6) (cap - 6)) (b0 :: b1 :: b2 :: b3 :: b4 :: b5 :: k0 :: k1 :: r) → Calls Try.prog 26 #[.slice (some ⟨g, off + 6, none⟩) (n - 6) (cap - 6)] wx fun e w' => e = .returned (.agg #[.int .u8 (b0.toNat : Int), .int .u8 (b1.toNat : Int), .int .u8 (b2.toNat : Int), .int .u8 (b3.toNat : Int), .int .u8 (b4.toNat : Int), .int .u8 (b5.toNat : Int)]) ∧ Below wx.heap.size wx w' := fun wx hx => mac_any _ _ wx hx (by simp)
  have hz0 := Hc0.out
  have K0 := hid ((((Kept.new wz).add Hc1.out).add Hc6.out).add Hc0.out)
  go_region_held3 (fun wy => wy.cell? ⟨g, off + 12, none⟩ = some (.int .u8 (k0.toNat : Int)) ∧ wy.cell? ⟨g, off + 13, none⟩ = some (.int .u8 (k1.toNat : Int))) (refine ⟨?_, ?_⟩ <;> (repeat (first | exact HE.out.1 | exact HE.out.2 | exact HD.out.1 | exact HD.out.2 | exact cell_below K3.out HD.out.1 | exact cell_below K3.out HD.out.2 | exact cell_below K2.out.bel HD.out.1 | exact cell_below K2.out.bel HD.out.2 | exact cell_below K1.out.bel HD.out.1 | exact cell_below K1.out.bel HD.out.2 | (with_reducible refine cell_below (below_alloc _ _) ?_) | (with_reducible refine cell_below (below_drew _) ?_)))) (first
    | (go_at_call 26; (with_reducible refine (HM1 _ (by (repeat (first | exact hz0 | refine Bs.drew ?_ | refine Bs.alloc ?_ _)))).mono ?_); rintro e w2 ⟨rfl, hb1⟩; have K1 := hid (K0.out.step (by first | exact hb1 | exact first_below hb1 | exact below_lit hb1 | exact first_below (below_lit hb1) | exact below_lit (first_below hb1))); have hz1 := K1.out.r 1 rfl; (first | (have HL1 := hid (lit_own hb1)) | (have HL1 := hid (lit_own (first_below hb1))) | skip); clear hb1)
    | (go_at_call 26; (with_reducible refine (HM2 _ (by (repeat (first | exact hz1 | refine Bs.drew ?_ | refine Bs.alloc ?_ _)))).mono ?_); rintro e w3 ⟨rfl, hb1⟩; have K2 := hid (K1.out.step (by first | exact hb1 | exact first_below hb1 | exact below_lit hb1 | exact first_below (below_lit hb1) | exact below_lit (first_below hb1))); have hz2 := K2.out.r 2 rfl; (first | (have HL2 := hid (lit_own hb1)) | (have HL2 := hid (lit_own (first_below hb1))) | (have HL2 := hid (HL1.out.below hb1)) | skip); clear hb1)
    | (refine step_app8 _ (by rfl) _ _ 22 (by rfl) wz.heap.size 5 u8ok (.slice (some ⟨w3.heap.size, 0, none⟩) 0 0) [] (by rfl) (by first | exact ownBs_litNil rfl K2.out.bel.size | exact (ownBs_litNil rfl K2.out.bel.size).drew) (.slice (cutA (some ⟨g, off, none⟩) cap 14 1) (n - 14) (cap - 14)) r (by rfl) (by repeat (first | exact hz2 | refine Bs.drew ?_ | refine Bs.alloc ?_ _)) (by have := Hr.out; simp only [List.length_nil]; omega) (by have := K2.out.bel.size; simp; omega) ?_; intro v8 w8 hown8 hb7 hg8; rw [List.nil_append] at hown8; have hb8 : Below wz.heap.size wz w8 := (by first | exact K2.out.bel.trans hb7 | exact (K2.out.bel.trans ((below_alloc w3 _).mono K2.out.bel.size)).trans hb7 | exact (K2.out.bel.trans (((below_alloc w3 _).drew).mono K2.out.bel.size)).trans hb7 | exact (K2.out.bel.trans ((below_drew w3).mono K2.out.bel.size)).trans hb7); obtain ⟨A8, c8, rfl⟩ := slice_len hown8.bs Hr.out; have Hown8 := hid hown8; have K3 := hid hb8; have Bk8 := hid ((Bk.out.below K3.out (by have := Hsz.out; omega))); have hroom : RoomFor w8 w.heap.size 14 := Bk8.out.room; have HB8 := hid (HW.out.trans (K3.out.mono HW.out.size)); have hbe := below_own HB8.out (grown_setRow w8 w.heap.size #[.int .u8 (a0.toNat : Int), .int .u8 (a1.toNat : Int), .int .u8 (a2.toNat : Int), .int .u8 (a3.toNat : Int), .int .u8 (a4.toNat : Int), .int .u8 (a5.toNat : Int), .int .u8 (b0.toNat : Int), .int .u8 (b1.toNat : Int), .int .u8 (b2.toNat : Int), .int .u8 (b3.toNat : Int), .int .u8 (b4.toNat : Int), .int .u8 (b5.toNat : Int), .int .i64 (256 * (k0.toNat : Int) + (k1.toNat : Int)), .slice A8 (n - 14) c8]) (Nat.le_refl _) HB8.out.size; have HE := hid (And.intro (cell_below hbe HD0.out.1) (cell_below hbe HD0.out.2)); clear hown8 hb7 hg8 hb8 hbe)
    | (refine step_app8 _ (by rfl) _ _ 22 (by rfl) wz.heap.size 5 u8ok (.slice (some ⟨w2.heap.size, 0, none⟩) 0 0) [] (by rfl) (by first | exact HL2.out.mono K1.out.bel.size | exact (HL2.out.mono K1.out.bel.size).drew) (.slice (cutA (some ⟨g, off, none⟩) cap 14 1) (n - 14) (cap - 14)) r (by rfl) (by repeat (first | exact hz2 | refine Bs.drew ?_ | refine Bs.alloc ?_ _)) (by have := Hr.out; simp only [List.length_nil]; omega) (by have := K2.out.bel.size; simp; omega) ?_; intro v8 w8 hown8 hb7 hg8; rw [List.nil_append] at hown8; have hb8 : Below wz.heap.size wz w8 := (by first | exact K2.out.bel.trans hb7 | exact (K2.out.bel.trans ((below_alloc w3 _).mono K2.out.bel.size)).trans hb7 | exact (K2.out.bel.trans (((below_alloc w3 _).drew).mono K2.out.bel.size)).trans hb7 | exact (K2.out.bel.trans ((below_drew w3).mono K2.out.bel.size)).trans hb7); obtain ⟨A8, c8, rfl⟩ := slice_len hown8.bs Hr.out; have Hown8 := hid hown8; have K3 := hid hb8; have Bk8 := hid ((Bk.out.below K3.out (by have := Hsz.out; omega))); have hroom : RoomFor w8 w.heap.size 14 := Bk8.out.room; have HB8 := hid (HW.out.trans (K3.out.mono HW.out.size)); have hbe := below_own HB8.out (grown_setRow w8 w.heap.size #[.int .u8 (a0.toNat : Int), .int .u8 (a1.toNat : Int), .int .u8 (a2.toNat : Int), .int .u8 (a3.toNat : Int), .int .u8 (a4.toNat : Int), .int .u8 (a5.toNat : Int), .int .u8 (b0.toNat : Int), .int .u8 (b1.toNat : Int), .int .u8 (b2.toNat : Int), .int .u8 (b3.toNat : Int), .int .u8 (b4.toNat : Int), .int .u8 (b5.toNat : Int), .int .i64 (256 * (k0.toNat : Int) + (k1.toNat : Int)), .slice A8 (n - 14) c8]) (Nat.le_refl _) HB8.out.size; have HE := hid (And.intro (cell_below hbe HD0.out.1) (cell_below hbe HD0.out.2)); clear hown8 hb7 hg8 hb8 hbe)
    | (refine step_app8 _ (by rfl) _ _ 22 (by rfl) wz.heap.size 5 u8ok (.slice (some ⟨wz.heap.size, 0, none⟩) 0 0) [] (by rfl) (by first | exact HL2.out | exact HL2.out.drew) (.slice (cutA (some ⟨g, off, none⟩) cap 14 1) (n - 14) (cap - 14)) r (by rfl) (by repeat (first | exact hz2 | refine Bs.drew ?_ | refine Bs.alloc ?_ _)) (by have := Hr.out; simp only [List.length_nil]; omega) (by have := K2.out.bel.size; simp; omega) ?_; intro v8 w8 hown8 hb7 hg8; rw [List.nil_append] at hown8; have hb8 : Below wz.heap.size wz w8 := (by first | exact K2.out.bel.trans hb7 | exact (K2.out.bel.trans ((below_alloc w3 _).mono K2.out.bel.size)).trans hb7 | exact (K2.out.bel.trans (((below_alloc w3 _).drew).mono K2.out.bel.size)).trans hb7 | exact (K2.out.bel.trans ((below_drew w3).mono K2.out.bel.size)).trans hb7); obtain ⟨A8, c8, rfl⟩ := slice_len hown8.bs Hr.out; have Hown8 := hid hown8; have K3 := hid hb8; have Bk8 := hid ((Bk.out.below K3.out (by have := Hsz.out; omega))); have hroom : RoomFor w8 w.heap.size 14 := Bk8.out.room; have HB8 := hid (HW.out.trans (K3.out.mono HW.out.size)); have hbe := below_own HB8.out (grown_setRow w8 w.heap.size #[.int .u8 (a0.toNat : Int), .int .u8 (a1.toNat : Int), .int .u8 (a2.toNat : Int), .int .u8 (a3.toNat : Int), .int .u8 (a4.toNat : Int), .int .u8 (a5.toNat : Int), .int .u8 (b0.toNat : Int), .int .u8 (b1.toNat : Int), .int .u8 (b2.toNat : Int), .int .u8 (b3.toNat : Int), .int .u8 (b4.toNat : Int), .int .u8 (b5.toNat : Int), .int .i64 (256 * (k0.toNat : Int) + (k1.toNat : Int)), .slice A8 (n - 14) c8]) (Nat.le_refl _) HB8.out.size; have HE := hid (And.intro (cell_below hbe HD0.out.1) (cell_below hbe HD0.out.2)); clear hown8 hb7 hg8 hb8 hbe)
    | fail)
  all_goals
    go_wp2_with fail
    refine ret_cell2 rfl _ _ _ _ rfl (Bk8.out.setRow #[.int .u8 (a0.toNat : Int), .int .u8 (a1.toNat : Int), .int .u8 (a2.toNat : Int), .int .u8 (a3.toNat : Int), .int .u8 (a4.toNat : Int), .int .u8 (a5.toNat : Int), .int .u8 (b0.toNat : Int), .int .u8 (b1.toNat : Int), .int .u8 (b2.toNat : Int), .int .u8 (b3.toNat : Int), .int .u8 (b4.toNat : Int), .int .u8 (b5.toNat : Int), .int .i64 (256 * (k0.toNat : Int) + (k1.toNat : Int)), .slice A8 (n - 14) c8]) Try.underlying30 rframeinfo _ rfl rfl ?_
    unfold ParsePost
    rw [Hp.out]
    refine ⟨_, ?_, (ownBs_store Hown8.out Bk8.out (by decide) (grown_setRow w8 w.heap.size #[.int .u8 (a0.toNat : Int), .int .u8 (a1.toNat : Int), .int .u8 (a2.toNat : Int), .int .u8 (a3.toNat : Int), .int .u8 (a4.toNat : Int), .int .u8 (a5.toNat : Int), .int .u8 (b0.toNat : Int), .int .u8 (b1.toNat : Int), .int .u8 (b2.toNat : Int), .int .u8 (b3.toNat : Int), .int .u8 (b4.toNat : Int), .int .u8 (b5.toNat : Int), .int .i64 (256 * (k0.toNat : Int) + (k1.toNat : Int)), .slice A8 (n - 14) c8])).mono (by have := Hsz.out; omega), below_own HB8.out (grown_setRow _ _ _) (Nat.le_refl _) HB8.out.size⟩
    rw [← Hkd.out]
    rfl
end Go.Proofs.Ytefpfjdfkecjkaa
