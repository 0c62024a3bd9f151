/- Contract of the document's Write of a datagram. -/
import Derived.Test.YtgiodkjcefcebaaUdpE
namespace Go.Proofs.Ytgiodkjcefcebaa
open Go Go.RowKit
attribute [local go_sem ↓] Go.wp_at_zero Go.wp_at_succ

theorem below_alloc1 {B : Nat} {a w : World} (h : Below B a w) (o : Obj) (hB : B ≤ a.heap.size := by simp) : Below B a (w.alloc o) := h.alloc (Nat.le_trans hB h.size) o
theorem keep3 {w wr : World} {t : TypeId} {x0 x1 x2 : Value} (h : Below (w.heap.size + 1) (w.alloc (.cells #[x0, x1, x2] t)) wr) :
    Below (w.heap.size + 1) (w.alloc (.cells #[x0, x1, x2] t)) wr ∧ wr.cell? ⟨w.heap.size, 0, none⟩ = some x0 ∧ wr.cell? ⟨w.heap.size, 1, none⟩ = some x1 ∧ wr.cell? ⟨w.heap.size, 2, none⟩ = some x2 :=
  have hb := (Blk.new w t #[x0, x1, x2]).below h (Nat.lt_succ_self _)
  ⟨h, hb.cell 0, hb.cell 1, hb.cell 2⟩
theorem rhigh_at (v : Value) (b : List UInt8) (p xi : Int) (m x : Nat) (w : World) (base : Nat) (h : OwnBs w base 5 v b) (hp : p = m) (hx : xi = x) (hbase : base ≤ w.heap.size) (hm : m ≤ 8) (hsize : b.length ≤ 190000000000000) :
    Calls Try.prog 19 #[v, .int .i64 p, .int .u64 xi] w fun e w' => ∃ v', e = .returned v' ∧ OwnBs w' base 5 v' (b ++ beBytes m x) ∧ Below base w w' := by
  subst hp; subst hx
  exact rhigh_any v b m x w base h hbase hm hsize
theorem u8_hi (S : Nat) (h : S ≤ 65535) : Value.int .u8 ((S : Int) / 256) = u8v (UInt8.ofNat (S / 256)) := by
  unfold u8v
  rw [UInt8.toNat_ofNat']
  exact val_int (by omega)
theorem u8_lo (S : Nat) : Value.int .u8 ((S : Int) % 256) = u8v (UInt8.ofNat S) := by
  unfold u8v
  rw [UInt8.toNat_ofNat']
  exact val_int (by omega)
theorem be2_eq (S : Nat) : beBytes 2 S = [UInt8.ofNat (S / 256), UInt8.ofNat S] := by
  simp [beBytes, List.range_succ]
theorem bare_put (f t n S : Nat) (data : List UInt8) :
    ((beBytes 2 f ++ beBytes 2 t ++ beBytes 2 n ++ [0, 0] ++ data).set 6 (UInt8.ofNat (S / 256))).set 7 (UInt8.ofNat S) = beBytes 2 f ++ beBytes 2 t ++ beBytes 2 n ++ beBytes 2 S ++ data := by
  rw [be2_eq S]
  have h6 : (beBytes 2 f ++ beBytes 2 t ++ beBytes 2 n).length = 6 := by simp [beBytes_len]
  generalize beBytes 2 f ++ beBytes 2 t ++ beBytes 2 n = H at *
  match H, h6 with
  | [_, _, _, _, _, _], _ => rfl
set_option maxHeartbeats 2000000 in
theorem rwrite_ok (v : Value) (data : List UInt8) (src dst : Nat) (f t : Nat) (w : World) (h : Bs w v data) (hl : data.length ≤ 65507) (hs : src < 4294967296) (hd : dst < 4294967296) (hf : f ≤ 65535) (ht : t ≤ 65535) :
    Calls Try.prog 10 #[.int .u32 src, .int .u32 dst, .agg #[.int .i64 f, .int .i64 t, v]] w fun e w' => ∃ v', e = .returned (.tuple #[v', .int .i64 0]) ∧
      OwnBs w' w.heap.size 5 v' (udpFull src dst f t data) ∧ Below w.heap.size w w' := by
  have Hb := hid h
  obtain ⟨A, cap, rfl, k1, k2, _⟩ := h.cells
  clear h
  have g1 : ¬ (f : Int) < 0 := by omega
  have g2 : ¬ (f : Int) > 65535 := by omega
  have g3 : ¬ (t : Int) < 0 := by omega
  have g4 : ¬ (t : Int) > 65535 := by omega
  have g5 : ¬ (data.length : Int) > 65507 := by omega
  have w1 : IntKind.i64.wrap (8 + (data.length : Int)) = 8 + (data.length : Int) := IntWalk.i64_in _ (by omega)
  have w2 : IntKind.u64.wrap (f : Int) = (f : Int) := IntWalk.u64_in _ (by omega)
  have w3 : IntKind.u64.wrap (t : Int) = (t : Int) := IntWalk.u64_in _ (by omega)
  have w4 : IntKind.u64.wrap (8 + (data.length : Int)) = 8 + (data.length : Int) := IntWalk.u64_in _ (by omega)
  obtain ⟨S, hS⟩ : ∃ S, udpSum src dst (udpBare f t data) = S := ⟨_, rfl⟩
  have hS16 : S ≤ 65535 := hS ▸ udpSum_lt _ _ _
  have HS := hid hS; clear hS
  have Hbl := hid (show (udpBare f t data).length = 8 + data.length by unfold udpBare; simp [beBytes_len]; omega)
  have HF := hid (show udpFull src dst f t data = beBytes 2 f ++ beBytes 2 t ++ beBytes 2 (8 + data.length) ++ beBytes 2 S ++ data by unfold udpFull; rw [HS.out])
  have Hset := hid (show ((udpBare f t data).set 6 (UInt8.ofNat (S / 256))).set 7 (UInt8.ofNat S) = udpFull src dst f t data by rw [HF.out]; exact bare_put f t (8 + data.length) S data)
  clear HF
  have h6 : (6 : Int) < ((udpBare f t data).length : Int) := by rw [Hbl.out]; omega
  have h7 : (7 : Int) < ((udpBare f t data).length : Int) := by rw [Hbl.out]; omega
  go_enter Try.func10, Try.ntmps10
  go_upto_region 5 with (fail)
  go_region_held3 (fun wr => Below (w.heap.size + 1) (w.alloc (.cells #[.int .i64 (f : Int), .int .i64 (t : Int), .slice A data.length cap] 30)) wr ∧ wr.cell? ⟨w.heap.size, 0, none⟩ = some (.int .i64 (f : Int)) ∧ wr.cell? ⟨w.heap.size, 1, none⟩ = some (.int .i64 (t : Int)) ∧ wr.cell? ⟨w.heap.size, 2, none⟩ = some (.slice A data.length cap)) (first | exact keep3 Hb3.out | exact keep3 Hb2.out | exact keep3 Hb1.out | exact keep3 ((Below.refl _ _).drew)) (first
    | ((go_at_call 19; (with_reducible refine (rhigh_at (.slice none 0 0) [] 2 f 2 f _ (w.heap.size + 1) (OwnBs.nil _ _ _) rfl rfl (by simp) (by decide) (by simp)).mono ?_); rintro e w' ⟨v1, rfl, hown1, hb1⟩); have H1 := hid hown1; have Hb1 := hid (((Below.refl _ _).drew).trans hb1); clear hown1 hb1)
    | ((go_at_call 19; (with_reducible refine (rhigh_at v1 _ 2 t 2 t _ (w.heap.size + 1) H1.out rfl rfl (by have := Hb1.out.size; simp at this; omega) (by decide) (by simp [beBytes_len])).mono ?_); rintro e w' ⟨v2, rfl, hown2, hb2⟩); have H2 := hid hown2; have Hb2 := hid (Hb1.out.trans hb2); clear hown2 hb2)
    | ((go_at_call 19; (with_reducible refine (rhigh_at v2 _ 2 (8 + (data.length : Int)) 2 (8 + data.length) _ (w.heap.size + 1) H2.out rfl (by simp) (by have := Hb2.out.size; simp at this; omega) (by decide) (by simp [beBytes_len])).mono ?_); rintro e w' ⟨v3, rfl, hown3, hb3⟩); have H3 := hid hown3; have Hb3 := hid (Hb2.out.trans hb3); clear hown3 hb3))
  have Hblk3 := hid ((Blk.new w 30 #[.int .i64 (f : Int), .int .i64 (t : Int), .slice A data.length cap]).below Hb3.out (Nat.lt_succ_self _))
  have hc2 : w'.cell? ⟨w.heap.size, 2, none⟩ = some (.slice A data.length cap) := Hblk3.out.cell 2
  have hc2a : (w'.alloc (.cells #[.int .u8 0, .int .u8 0] 5)).cell? ⟨w.heap.size, 2, none⟩ = some (.slice A data.length cap) := (Hblk3.out.alloc _).cell 2
  have Hh6 := hid (show ([] ++ beBytes 2 f ++ beBytes 2 t ++ beBytes 2 (8 + data.length)).length = 6 by simp [beBytes_len])
  have Hh8 := hid (show ([] ++ beBytes 2 f ++ beBytes 2 t ++ beBytes 2 (8 + data.length) ++ [0, 0]).length = 8 by simp [beBytes_len])
  have He := hid (show [] ++ beBytes 2 f ++ beBytes 2 t ++ beBytes 2 (8 + data.length) ++ [0, 0] ++ data = udpBare f t data by simp [udpBare])
  generalize [] ++ beBytes 2 f ++ beBytes 2 t ++ beBytes 2 (8 + data.length) = hdr at *
  clear H1 Hb1 H2 Hb2 w1 w2 w3 w4
  go_upto_region 6 with (fail)
  have Hbf := hid (show ∀ x, Below (w.heap.size + 1) (w.alloc (.cells #[.int .i64 (f : Int), .int .i64 (t : Int), .slice A data.length cap] 30)) x → Bs x (.slice A data.length cap) data from fun x hx => (Hb.out.alloc _).below (by rw [World.size_alloc]; exact hx))
  clear Hb
  go_region_law (first
    | (refine step_app8b _ (by rfl) _ _ 23 (by rfl) (w.heap.size + 1) 5 u8ok v3 hdr (by rfl) (by (repeat (first | (with_reducible exact H3.out) | (with_reducible exact H8.out) | (with_reducible refine OwnBs.drew ?_) | (with_reducible refine OwnBs.drewN ?_ _) | (with_reducible refine OwnBs.alloc ?_ _)))) (.slice (some ⟨w'.heap.size, 0, none⟩) 2 2) [0, 0] (by rfl) (by (repeat (first | (with_reducible refine Bs.drew ?_) | (with_reducible refine Bs.drewN ?_ _) | (with_reducible exact bs_litm #[.int .u8 0, .int .u8 0] [0, 0] 2 _ rfl rfl (by decide) (by simp))))) (by rw [Hh6.out]; simp) (w.alloc (.cells #[.int .i64 (f : Int), .int .i64 (t : Int), .slice A data.length cap] 30)) (by (repeat (first | (with_reducible exact Hb3.out) | (with_reducible exact Hb8.out) | (with_reducible refine below_alloc1 ?_ _) | (with_reducible refine Below.drew ?_) | (with_reducible refine below_drewN ?_ _)))) (by simp) w.heap.size 30 [.int .i64 (f : Int), .int .i64 (t : Int), .slice A data.length cap] (by (repeat (first | (with_reducible exact Hblk3.out) | (with_reducible exact Hblk8.out) | (with_reducible refine Blk.alloc ?_ _) | (with_reducible refine Blk.drew ?_) | (with_reducible refine Blk.drewN ?_ _)))) (by decide) ?_; intro A8 c8 w8 hown8 hb8 hblk8; rw [Hh8.out] at hown8 ⊢; have H8 := hid hown8; have Hb8 := hid hb8; have Hblk8 := hid hblk8; have hc8 : w8.cell? ⟨w.heap.size, 2, none⟩ = some (.slice A data.length cap) := hblk8.cell 2; clear hown8 hb8 hblk8)
    | (refine step_app8b _ (by rfl) _ _ 23 (by rfl) (w.heap.size + 1) 5 u8ok (.slice A8 8 c8) (hdr ++ [0, 0]) (by rfl) (by (repeat (first | (with_reducible exact H3.out) | (with_reducible exact H8.out) | (with_reducible refine OwnBs.drew ?_) | (with_reducible refine OwnBs.drewN ?_ _) | (with_reducible refine OwnBs.alloc ?_ _)))) _ data (by rfl) (Hbf.out _ (by (repeat (first | (with_reducible exact Hb3.out) | (with_reducible exact Hb8.out) | (with_reducible refine below_alloc1 ?_ _) | (with_reducible refine Below.drew ?_) | (with_reducible refine below_drewN ?_ _))))) (by simp [Hh6.out]; omega) (w.alloc (.cells #[.int .i64 (f : Int), .int .i64 (t : Int), .slice A data.length cap] 30)) (by (repeat (first | (with_reducible exact Hb3.out) | (with_reducible exact Hb8.out) | (with_reducible refine below_alloc1 ?_ _) | (with_reducible refine Below.drew ?_) | (with_reducible refine below_drewN ?_ _)))) (by simp) w.heap.size 30 [.int .i64 (f : Int), .int .i64 (t : Int), .slice A data.length cap] (by (repeat (first | (with_reducible exact Hblk3.out) | (with_reducible exact Hblk8.out) | (with_reducible refine Blk.alloc ?_ _) | (with_reducible refine Blk.drew ?_) | (with_reducible refine Blk.drewN ?_ _)))) (by decide) ?_; intro A9 c9 w9 hown9 hb9 hblk9; rw [He.out] at hown9 ⊢; have H9 := hid hown9; have Hb9 := hid hb9; have Hblk9 := hid hblk9; clear hown9 hb9 hblk9)
    | fail)
  all_goals
    obtain ⟨g, cap9, hv9, q1, q2, q3⟩ := own_open H9.out (by rw [Hbl.out]; omega)
    injection hv9 with e1 e2 e3
    subst e1; subst e3
    clear e2
    go_wp2_with (first
      | ((go_at_call 17; refine (rsum_any _ (udpBare f t data) src dst _ H9.out.bs (by rw [Hbl.out]; omega) (by rw [Hbl.out]; omega) hs hd).mono ?_; rintro e w' ⟨rfl, hb10⟩); rw [HS.out]; have H10 := hid (H9.out.below hb10); have Hb10 := hid (Hb9.out.trans (hb10.mono (by have := Hb9.out.size; simp at this; omega))); obtain ⟨hc6, hf6⟩ := own_cell H10.out 6 (by rw [Hbl.out]; omega); obtain ⟨hc7, hf7⟩ := own_cell H10.out 7 (by rw [Hbl.out]; omega); clear hb10))
    obtain ⟨hown11, hg11⟩ := own_set H10.out 6 (UInt8.ofNat (S / 256)) (.int .u8 ((S : Int) / 256)) (u8_hi S hS16)
    obtain ⟨hown12, hg12⟩ := own_set hown11 7 (UInt8.ofNat S) (.int .u8 ((S : Int) % 256)) (u8_lo S)
    rw [Hset.out] at hown12
    go_ret2
    exact ⟨_, rfl, hown12.mono (by omega), below_own (Below.mono ((below_alloc w _).trans (Below.mono Hb10.out (by omega))) (by simp)) (grown_trans hg11 hg12) (by omega) (by have := Hb10.out.size; simp at this; omega)⟩

theorem rwrite_any (v : Value) (data : List UInt8) (src dst : Nat) (f t : Int) (w : World) (h : Bs w v data) (hl : data.length ≤ 1099511627776) (hs : src < 4294967296) (hd : dst < 4294967296) :
    Calls Try.prog 10 #[.int .u32 src, .int .u32 dst, .agg #[.int .i64 f, .int .i64 t, v]] w fun e w' => ∃ v', e = .returned (.tuple #[v', .int .i64 (udpWrite src dst f t data).2]) ∧
      OwnBs w' w.heap.size 5 v' (udpWrite src dst f t data).1 ∧ Below w.heap.size w w' := by
  by_cases hr : f < 0 ∨ f > 65535 ∨ t < 0 ∨ t > 65535
  · have Hr := hid (show udpWrite src dst f t data = ([], 1) by unfold udpWrite; rw [if_pos hr])
    rw [Hr.out]
    obtain ⟨A, cap, rfl, k1, k2, _⟩ := h.cells
    clear h
    by_cases g1 : f < 0
    · go_enter Try.func10, Try.ntmps10
      go_wp2_with fail
      go_ret2
      exact ⟨_, rfl, OwnBs.nil _ _ _, below_alloc _ _⟩
    by_cases g2 : f > 65535
    · go_enter Try.func10, Try.ntmps10
      go_wp2_with fail
      go_ret2
      exact ⟨_, rfl, OwnBs.nil _ _ _, below_alloc _ _⟩
    by_cases g3 : t < 0
    · go_enter Try.func10, Try.ntmps10
      go_wp2_with fail
      go_ret2
      exact ⟨_, rfl, OwnBs.nil _ _ _, below_alloc _ _⟩
    have g4 : t > 65535 := by omega
    go_enter Try.func10, Try.ntmps10
    go_wp2_with fail
    go_ret2
    exact ⟨_, rfl, OwnBs.nil _ _ _, below_alloc _ _⟩
  by_cases h5 : data.length > 65507
  · have Hr := hid (show udpWrite src dst f t data = ([], 5) by unfold udpWrite; rw [if_neg hr, if_pos h5])
    rw [Hr.out]
    obtain ⟨A, cap, rfl, k1, k2, _⟩ := h.cells
    clear h
    have g1 : ¬ f < 0 := by omega
    have g2 : ¬ f > 65535 := by omega
    have g3 : ¬ t < 0 := by omega
    have g4 : ¬ t > 65535 := by omega
    have g5 : (data.length : Int) > 65507 := by omega
    go_enter Try.func10, Try.ntmps10
    go_wp2_with fail
    go_ret2
    exact ⟨_, rfl, OwnBs.nil _ _ _, below_alloc _ _⟩
  obtain ⟨nf, rfl⟩ : ∃ n : Nat, f = n := ⟨f.toNat, by omega⟩
  obtain ⟨nt, rfl⟩ : ∃ n : Nat, t = n := ⟨t.toNat, by omega⟩
  have hr2 : udpWrite src dst nf nt data = (udpFull src dst nf nt data, 0) := by unfold udpWrite; rw [if_neg hr, if_neg h5, Int.toNat_natCast, Int.toNat_natCast]
  rw [hr2]
  exact rwrite_ok v data src dst nf nt w h (by omega) hs hd (by omega) (by omega)
end Go.Proofs.Ytgiodkjcefcebaa
