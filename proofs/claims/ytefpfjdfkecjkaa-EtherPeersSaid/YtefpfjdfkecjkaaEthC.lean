/- Contracts of ether's Parse, the document's Parse. -/
import Derived.Test.YtefpfjdfkecjkaaEthB
import Derived.Test.YtefpfjdfkecjkaaStoreG
namespace Go.Proofs.Ytefpfjdfkecjkaa
open Go Go.RowKit
attribute [local go_sem ↓] Go.wp_at_zero Go.wp_at_succ
set_option maxRecDepth 100000

theorem run_arrayAt {P : Program} {T e : TypeId} {m : Nat} (hu : P.underlying T = some (.array m e)) (A : Option Addr) (n cap : Nat) (h : m ≤ n) (w : World) :
    (Instr.arrayAt T (.slice A n cap)).run P w = .ok (.pointer A) w := by
  simp [Instr.arrayAt, run_underlying hu, show ¬ n < m by omega]

theorem cut8_to (A : Option Addr) (n cap : Nat) (hi' : Int) (k : Nat) (h2 : hi' = k) (h3 : k ≤ cap) (w : World) :
    (Instr.sliceAt 22 (.slice A n cap) none (some (.int .i64 hi')) none).run Try.prog w = .ok (.slice (cutA A cap 0 1) k cap) w := by
  obtain ⟨i, hi, _, hs, _⟩ := info_parts u8info
  have := run_cut_to (P := Try.prog) (T := 22) Try.underlying22 hi A n cap .i64 hi' k h2 h3 w
  rwa [hs] at this
theorem cut8 (A : Option Addr) (n cap : Nat) (lo hi' : Int) (l k : Nat) (h1 : lo = l) (h2 : hi' = l + k) (h3 : l + k ≤ cap) (w : World) :
    (Instr.sliceAt 22 (.slice A n cap) (some (.int .i64 lo)) (some (.int .i64 hi')) none).run Try.prog w = .ok (.slice (cutA A cap l 1) k (cap - l)) w := by
  obtain ⟨i, hi, _, hs, _⟩ := info_parts u8info
  have := run_cut (P := Try.prog) (T := 22) Try.underlying22 hi A n cap .i64 .i64 lo hi' l k h1 h2 h3 w
  rwa [hs] at this
theorem cut8_from (A : Option Addr) (n cap : Nat) (lo : Int) (l k : Nat) (h1 : lo = l) (h2 : n = l + k) (h3 : n ≤ cap) (w : World) :
    (Instr.sliceAt 22 (.slice A n cap) (some (.int .i64 lo)) none none).run Try.prog w = .ok (.slice (cutA A cap l 1) k (cap - l)) w := by
  obtain ⟨i, hi, _, hs, _⟩ := info_parts u8info
  have := run_cut_from (P := Try.prog) (T := 22) Try.underlying22 hi A n cap .i64 lo l k h1 h2 h3 w
  rwa [hs] at this
theorem cutA_at {g off cap l : Nat} (h : cap ≠ l) : cutA (some ⟨g, off, none⟩) cap l 1 = some ⟨g, off + l, none⟩ := by
  unfold cutA
  rw [if_neg h, Option.map_some, add_off, Nat.mul_one]

theorem keep12 {w w' : World} (hb : Below w.heap.size w w') {p0 p1 p2 p3 p4 p5 p6 p7 p8 p9 p10 p11 : Addr} {x0 x1 x2 x3 x4 x5 x6 x7 x8 x9 x10 x11 : Value}
    (h : w.cell? p0 = some x0 ∧ w.cell? p1 = some x1 ∧ w.cell? p2 = some x2 ∧ w.cell? p3 = some x3 ∧ w.cell? p4 = some x4 ∧ w.cell? p5 = some x5 ∧ w.cell? p6 = some x6 ∧ w.cell? p7 = some x7 ∧ w.cell? p8 = some x8 ∧ w.cell? p9 = some x9 ∧ w.cell? p10 = some x10 ∧ w.cell? p11 = some x11) :
    w'.cell? p0 = some x0 ∧ w'.cell? p1 = some x1 ∧ w'.cell? p2 = some x2 ∧ w'.cell? p3 = some x3 ∧ w'.cell? p4 = some x4 ∧ w'.cell? p5 = some x5 ∧ w'.cell? p6 = some x6 ∧ w'.cell? p7 = some x7 ∧ w'.cell? p8 = some x8 ∧ w'.cell? p9 = some x9 ∧ w'.cell? p10 = some x10 ∧ w'.cell? p11 = some x11 := by
  obtain ⟨h0, h1, h2, h3, h4, h5, h6, h7, h8, h9, h10, h11⟩ := h
  exact ⟨cell_below hb h0, cell_below hb h1, cell_below hb h2, cell_below hb h3, cell_below hb h4, cell_below hb h5, cell_below hb h6, cell_below hb h7, cell_below hb h8, cell_below hb h9, cell_below hb h10, cell_below hb h11⟩
theorem first_below {w w' : World} (h : Below w.drew.heap.size w.drew w') : Below w.heap.size w w' := (below_drew w).trans h

def eParse (b : List UInt8) : Frm × Int := if b.length < 14 ∨ b.length > 1514 then (⟨.zero, .zero, 0, []⟩, 14) else (⟨macAt b 0, macAt b 6, (beVal ((b.drop 12).take 2) : Int), b.drop 14⟩, 0)
theorem split14 (b : List UInt8) (h : 14 ≤ b.length) : ∃ a0 a1 a2 a3 a4 a5 b0 b1 b2 b3 b4 b5 k0 k1 r, b = a0 :: a1 :: a2 :: a3 :: a4 :: a5 :: b0 :: b1 :: b2 :: b3 :: b4 :: b5 :: k0 :: k1 :: r := by
  match b, h with
  | a0 :: a1 :: a2 :: a3 :: a4 :: a5 :: b0 :: b1 :: b2 :: b3 :: b4 :: b5 :: k0 :: k1 :: r, _ => exact ⟨a0, a1, a2, a3, a4, a5, b0, b1, b2, b3, b4, b5, k0, k1, r, rfl⟩

def ParsePost (b : List UInt8) (w : World) (e : Ending) (w' : World) : Prop :=
  ∃ v', e = .returned (.tuple #[(eParse b).1.val v', .int .i64 (eParse b).2]) ∧ OwnBs w' w.heap.size 5 v' (eParse b).1.body ∧ Below w.heap.size w w'

theorem parse_bad (v : Value) (b : List UInt8) (w : World) (h : Bs w v b) (hb : b.length < 14 ∨ b.length > 1514) : Calls Try.prog 8 #[v] w (ParsePost b w) := by
  obtain ⟨n, hn⟩ : ∃ n, b.length = n := ⟨_, rfl⟩
  obtain ⟨A, cap, rfl⟩ := slice_len h hn
  have Hp := hid (show eParse b = (⟨.zero, .zero, 0, []⟩, 14) by unfold eParse; rw [if_pos hb])
  have t1 : (n : Int) < 14 ∨ ¬ (n : Int) < 14 ∧ (n : Int) > 1514 := by omega
  clear hn h hb
  rcases t1 with t1 | ⟨t1, t2⟩
  all_goals
    go_enter Try.func8, Try.ntmps8
    go_wp2_with fail
    refine ret_cell2 rfl _ _ _ _ rfl (Blk.new w 25 #[.int .u8 0, .int .u8 0, .int .u8 0, .int .u8 0, .int .u8 0, .int .u8 0, .int .u8 0, .int .u8 0, .int .u8 0, .int .u8 0, .int .u8 0, .int .u8 0, .int .i64 0, .slice none 0 0]) Try.underlying25 eframeinfo _ rfl rfl ?_
    unfold ParsePost
    rw [Hp.out]
    exact ⟨_, rfl, OwnBs.nil _ _ _, below_alloc w _⟩

theorem lays_frame (a0 a1 a2 a3 a4 a5 b0 b1 b2 b3 b4 b5 k : Int) (A : Option Addr) (n c : Nat) : Lays Try.prog 25 #[.int .u8 a0, .int .u8 a1, .int .u8 a2, .int .u8 a3, .int .u8 a4, .int .u8 a5, .int .u8 b0, .int .u8 b1, .int .u8 b2, .int .u8 b3, .int .u8 b4, .int .u8 b5, .int .i64 k, .slice A n c] := ⟨eframeinfo, by simp [Value.oneCell']⟩
theorem fold_frame (x y : Value) : Instr.storeAt 25 x y = storeG 25 x y := rfl
attribute [local go_sem ↓] fold_frame
attribute [local go_sem] storeG_run lays_frame
set_option maxHeartbeats 2000000 in
theorem parse_any (v : Value) (b : List UInt8) (w : World) (h : Bs w v b) (hl : b.length ≤ 100000000) : Calls Try.prog 8 #[v] w (ParsePost b w) := by
  by_cases h1 : b.length < 14 ∨ b.length > 1514
  · exact parse_bad v b w h h1
  have HB := hid h
  obtain ⟨n, hn⟩ : ∃ n, b.length = n := ⟨_, rfl⟩
  obtain ⟨A, cap, rfl⟩ := slice_len h hn
  have Hn := hid hn
  rw [hn] at h1
  have Hp := hid (show eParse b = (⟨macAt b 0, macAt b 6, (beVal ((b.drop 12).take 2) : Int), b.drop 14⟩, 0) by unfold eParse; rw [hn, if_neg (by omega)])
  have t1 : ¬ (n : Int) < 14 := by omega
  have t2 : ¬ (n : Int) > 1514 := by omega
  have hn14 : 14 ≤ n := by omega
  obtain ⟨_, hcap1, hcap2, k3⟩ := Bs.open h
  obtain ⟨g, off, rfl, hc⟩ : ∃ b' off, A = some ⟨b', off, none⟩ ∧ ∀ i, (hi : i < b.length) → w.cell? ⟨b', off + i, none⟩ = some (u8v b[i]) := by
    rcases k3 with k3 | k3
    · omega
    · exact k3
  have Hcut := hid (h.cut (l := 14) (k := n - 14) (by omega))
  rw [List.take_of_length_le (by simp; omega)] at Hcut
  have s1 := cut8_to (some ⟨g, off, none⟩) n cap 6 6 rfl (by omega)
  have s2 := cut8 (some ⟨g, off, none⟩) n cap 6 12 6 6 rfl rfl (by omega)
  have s3 := cut8_from (some ⟨g, off, none⟩) n cap 14 14 (n - 14) rfl (by omega) hcap1
  rw [cutA_at (by omega)] at s1 s2
  obtain ⟨a0, a1, a2, a3, a4, a5, b0, b1, b2, b3, b4, b5, k0, k1, r, rfl⟩ := split14 b (by omega)
  have c0 : w.cell? ⟨g, off, none⟩ = some (.int .u8 (a0.toNat : Int)) := hc 0 (by omega)
  have c1 : w.cell? ⟨g, off + 1, none⟩ = some (.int .u8 (a1.toNat : Int)) := hc 1 (by omega)
  have c2 : w.cell? ⟨g, off + 2, none⟩ = some (.int .u8 (a2.toNat : Int)) := hc 2 (by omega)
  have c3 : w.cell? ⟨g, off + 3, none⟩ = some (.int .u8 (a3.toNat : Int)) := hc 3 (by omega)
  have c4 : w.cell? ⟨g, off + 4, none⟩ = some (.int .u8 (a4.toNat : Int)) := hc 4 (by omega)
  have c5 : w.cell? ⟨g, off + 5, none⟩ = some (.int .u8 (a5.toNat : Int)) := hc 5 (by omega)
  have d0 : w.cell? ⟨g, off + 6, none⟩ = some (.int .u8 (b0.toNat : Int)) := hc 6 (by omega)
  have d1 : w.cell? ⟨g, off + 6 + 1, none⟩ = some (.int .u8 (b1.toNat : Int)) := hc 7 (by omega)
  have d2 : w.cell? ⟨g, off + 6 + 2, none⟩ = some (.int .u8 (b2.toNat : Int)) := hc 8 (by omega)
  have d3 : w.cell? ⟨g, off + 6 + 3, none⟩ = some (.int .u8 (b3.toNat : Int)) := hc 9 (by omega)
  have d4 : w.cell? ⟨g, off + 6 + 4, none⟩ = some (.int .u8 (b4.toNat : Int)) := hc 10 (by omega)
  have d5 : w.cell? ⟨g, off + 6 + 5, none⟩ = some (.int .u8 (b5.toNat : Int)) := hc 11 (by omega)
  have HS := hid (And.intro c0 (And.intro c1 (And.intro c2 (And.intro c3 (And.intro c4 (And.intro c5 (And.intro d0 (And.intro d1 (And.intro d2 (And.intro d3 (And.intro d4 d5)))))))))))
  have hap1 := run_arrayAt (P := Try.prog) Try.underlying23 (some ⟨g, off, none⟩) 6 cap (Nat.le_refl 6)
  have hap2 := run_arrayAt (P := Try.prog) Try.underlying23 (some ⟨g, off + 6, none⟩) 6 (cap - 6) (Nat.le_refl 6)
  have hcut : cutOf (a0 :: a1 :: a2 :: a3 :: a4 :: a5 :: b0 :: b1 :: b2 :: b3 :: b4 :: b5 :: k0 :: k1 :: r) 12 2 = ([k0, k1], 0) := by
    unfold cutOf
    simp [okSize]
    omega
  have Hbe := hid hcut
  obtain ⟨kind, hkd⟩ : ∃ k, beVal [k0, k1] = k := ⟨_, rfl⟩
  have hkv : beVal [k0, k1] < 65536 := beVal_lt [k0, k1]
  rw [hkd] at hkv
  have Hkd := hid hkd
  have hkw : IntKind.i64.wrap (kind : Int) = (kind : Int) := IntWalk.i64_in _ (by omega)
  have hr : r.length = n - 14 := by simp at hn; omega
  have Hr := hid hr
  clear hc hn h k3 h1 c0 c1 c2 c3 c4 c5 d0 d1 d2 d3 d4 d5 hcut hkd hr
  go_enter Try.func8, Try.ntmps8
  go_upto_region 4 with ((go_at_call 24; refine (be_any _ _ 12 2 _ (HB.out.alloc _) (by decide) (by decide)).mono ?_; rintro e w' ⟨rfl, rfl⟩); rw [Hbe.out]; dsimp only; rw [Hkd.out])
  have Bk := hid (Blk.new w 25 #[.int .u8 0, .int .u8 0, .int .u8 0, .int .u8 0, .int .u8 0, .int .u8 0, .int .u8 0, .int .u8 0, .int .u8 0, .int .u8 0, .int .u8 0, .int .u8 0, .int .i64 0, .slice none 0 0])
  have HS1 := hid (keep12 (below_alloc w (.cells #[.int .u8 0, .int .u8 0, .int .u8 0, .int .u8 0, .int .u8 0, .int .u8 0, .int .u8 0, .int .u8 0, .int .u8 0, .int .u8 0, .int .u8 0, .int .u8 0, .int .i64 0, .slice none 0 0] 25)) HS.out)
  have Hc1 := hid (Hcut.alloc (.cells #[.int .u8 0, .int .u8 0, .int .u8 0, .int .u8 0, .int .u8 0, .int .u8 0, .int .u8 0, .int .u8 0, .int .u8 0, .int .u8 0, .int .u8 0, .int .u8 0, .int .i64 0, .slice none 0 0] 25))
  have HW := hid (below_alloc w (.cells #[.int .u8 0, .int .u8 0, .int .u8 0, .int .u8 0, .int .u8 0, .int .u8 0, .int .u8 0, .int .u8 0, .int .u8 0, .int .u8 0, .int .u8 0, .int .u8 0, .int .i64 0, .slice none 0 0] 25))
  have Hsz := hid (show (w.alloc (.cells #[.int .u8 0, .int .u8 0, .int .u8 0, .int .u8 0, .int .u8 0, .int .u8 0, .int .u8 0, .int .u8 0, .int .u8 0, .int .u8 0, .int .u8 0, .int .u8 0, .int .i64 0, .slice none 0 0] 25)).heap.size = w.heap.size + 1 by simp)
  have b12 := Bk.out.cell 12
  generalize w.alloc (.cells #[.int .u8 0, .int .u8 0, .int .u8 0, .int .u8 0, .int .u8 0, .int .u8 0, .int .u8 0, .int .u8 0, .int .u8 0, .int .u8 0, .int .u8 0, .int .u8 0, .int .i64 0, .slice none 0 0] 25) = wz at *
  go_region_held3 (fun wy => wy.cell? ⟨g, off, none⟩ = some (.int .u8 (a0.toNat : Int)) ∧ wy.cell? ⟨g, off + 1, none⟩ = some (.int .u8 (a1.toNat : Int)) ∧ wy.cell? ⟨g, off + 2, none⟩ = some (.int .u8 (a2.toNat : Int)) ∧ wy.cell? ⟨g, off + 3, none⟩ = some (.int .u8 (a3.toNat : Int)) ∧ wy.cell? ⟨g, off + 4, none⟩ = some (.int .u8 (a4.toNat : Int)) ∧ wy.cell? ⟨g, off + 5, none⟩ = some (.int .u8 (a5.toNat : Int)) ∧ wy.cell? ⟨g, off + 6, none⟩ = some (.int .u8 (b0.toNat : Int)) ∧ wy.cell? ⟨g, off + 6 + 1, none⟩ = some (.int .u8 (b1.toNat : Int)) ∧ wy.cell? ⟨g, off + 6 + 2, none⟩ = some (.int .u8 (b2.toNat : Int)) ∧ wy.cell? ⟨g, off + 6 + 3, none⟩ = some (.int .u8 (b3.toNat : Int)) ∧ wy.cell? ⟨g, off + 6 + 4, none⟩ = some (.int .u8 (b4.toNat : Int)) ∧ wy.cell? ⟨g, off + 6 + 5, none⟩ = some (.int .u8 (b5.toNat : Int))) (first | exact HS3.out | exact keep12 Hb2.out HS1.out | exact keep12 (below_drew _) HS1.out | exact HS1.out) (first
    | (go_at_call 25; (refine (clone_any _ r _ (by first | exact Hc1.out | exact Hc1.out.drew) (by have := Hr.out; omega)).mono ?_); rintro e w2 ⟨v1, rfl, hown, hb1⟩; obtain ⟨A1, cap1, rfl⟩ := slice_len hown.bs Hr.out; have Hb2 := hid (first_below hb1); have Bk2 := hid ((Bk.out.drew).keep hb1); have Hown := hid hown; have hroom : RoomFor w2 w.heap.size 14 := Bk2.out.room; have HS3 := hid (keep12 (below_own (HW.out.trans (Hb2.out.mono HW.out.size)) (grown_setRow w2 w.heap.size #[.int .u8 (a0.toNat : Int), .int .u8 (a1.toNat : Int), .int .u8 (a2.toNat : Int), .int .u8 (a3.toNat : Int), .int .u8 (a4.toNat : Int), .int .u8 (a5.toNat : Int), .int .u8 (b0.toNat : Int), .int .u8 (b1.toNat : Int), .int .u8 (b2.toNat : Int), .int .u8 (b3.toNat : Int), .int .u8 (b4.toNat : Int), .int .u8 (b5.toNat : Int), .int .i64 (kind : Int), .slice A1 (n - 14) cap1]) (Nat.le_refl _) (HW.out.trans (Hb2.out.mono HW.out.size)).size) HS.out); clear hown hb1)
    | fail)
  all_goals
    go_wp2_with fail
    refine ret_cell2 rfl _ _ _ _ rfl (Bk2.out.setRow #[.int .u8 (a0.toNat : Int), .int .u8 (a1.toNat : Int), .int .u8 (a2.toNat : Int), .int .u8 (a3.toNat : Int), .int .u8 (a4.toNat : Int), .int .u8 (a5.toNat : Int), .int .u8 (b0.toNat : Int), .int .u8 (b1.toNat : Int), .int .u8 (b2.toNat : Int), .int .u8 (b3.toNat : Int), .int .u8 (b4.toNat : Int), .int .u8 (b5.toNat : Int), .int .i64 (kind : Int), .slice A1 (n - 14) cap1]) Try.underlying25 eframeinfo _ rfl rfl ?_
    unfold ParsePost
    rw [Hp.out]
    have hb3 := HW.out.trans (Hb2.out.mono HW.out.size)
    refine ⟨_, ?_, (ownBs_store Hown.out Bk2.out (by decide) (grown_setRow w2 w.heap.size #[.int .u8 (a0.toNat : Int), .int .u8 (a1.toNat : Int), .int .u8 (a2.toNat : Int), .int .u8 (a3.toNat : Int), .int .u8 (a4.toNat : Int), .int .u8 (a5.toNat : Int), .int .u8 (b0.toNat : Int), .int .u8 (b1.toNat : Int), .int .u8 (b2.toNat : Int), .int .u8 (b3.toNat : Int), .int .u8 (b4.toNat : Int), .int .u8 (b5.toNat : Int), .int .i64 (kind : Int), .slice A1 (n - 14) cap1])).mono (by have := Hsz.out; simp; omega), below_own hb3 (grown_setRow _ _ _) (Nat.le_refl _) hb3.size⟩
    rw [← Hkd.out]
    rfl
end Go.Proofs.Ytefpfjdfkecjkaa
