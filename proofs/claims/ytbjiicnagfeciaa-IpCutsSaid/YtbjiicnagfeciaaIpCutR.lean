/- Contract of the document's Cut. -/
import Derived.Test.YtbjiicnagfeciaaIpTwin
import Derived.Test.YtbjiicnagfeciaaRegion2
import Derived.Test.YtbjiicnagfeciaaRound
import Derived.Deep.Cut
import Derived.Deep.CutRange
import Derived.Deep.RegionHeld3
import Derived.Deep.DrawnRows
namespace Go.Proofs.Ytbjiicnagfeciaa
open Go Go.RowKit
attribute [local go_sem ↓] Go.wp_at_zero Go.wp_at_succ
set_option maxRecDepth 100000

def rpkzero : Value := .agg #[.int .u32 0, .int .u32 0, .int .i64 0, .int .i64 0, .int .i64 0, .bool false, .bool false, .int .i64 0, .slice none 0 0]
theorem rpkinfo2 : (Try.prog.info? 35).map (fun i => (i.zero, i.size, i.bytes)) = some (some rpkzero, 9, 72) := by kernel_rfl
theorem rpkok : ElemOk Try.prog 32 35 rpkzero 9 72 := by
  obtain ⟨i, hi, h1, h2, h3⟩ := info_parts rpkinfo2
  exact ⟨Try.underlying32, ⟨i, hi, h1, h2, h3⟩, rfl, by decide, by decide⟩

set_option maxHeartbeats 4000000 in
theorem rCut_any (v : Value) (p : Pk) (mtu : Int) (w : World) (h : Bs w v p.body) (h1 : -9223372036854775808 ≤ mtu) (h2 : mtu ≤ 9223372036854775807) :
    Calls Try.prog 13 #[.agg (pkCells p v).toArray, .int .i64 mtu] w fun e w' => ∃ v', e = .returned (.tuple #[v', .int .i64 (ipCut p mtu).2]) ∧
      OwnPkL w' w.heap.size 35 5 v' (ipCut p mtu).1 ∧ Below w.heap.size w w' := by
  obtain ⟨src, dst, proto, id, off, more, whole, ttl, body⟩ := p
  have Hb := hid h
  obtain ⟨A, cap, rfl, k1, k2, _⟩ := h.cells
  clear h
  simp only at k1 Hb
  dsimp only [pkCells]
  by_cases g1 : mtu < 28
  · have Hr := hid (show ipCut ⟨src, dst, proto, id, off, more, whole, ttl, body⟩ mtu = ([], 1) by simp [ipCut, g1])
    rw [Hr.out]
    go_enter Try.func13, Try.ntmps13
    go_wp2_with fail
    go_ret2
    exact ⟨_, rfl, OwnPkL.nil _ _ _ _, below_alloc _ _⟩
  by_cases g2 : more = true
  · subst g2
    have Hr := hid (show ipCut ⟨src, dst, proto, id, off, true, whole, ttl, body⟩ mtu = ([], 15) by simp [ipCut, g1])
    rw [Hr.out]
    go_enter Try.func13, Try.ntmps13
    go_wp2_with fail
    go_ret2
    exact ⟨_, rfl, OwnPkL.nil _ _ _ _, below_alloc _ _⟩
  have g2' : more = false := by simpa using g2
  subst g2'
  by_cases g3 : off = 0
  case neg =>
    have Hr := hid (show ipCut ⟨src, dst, proto, id, off, false, whole, ttl, body⟩ mtu = ([], 15) by simp [ipCut, g1, g3])
    have g3' : (off != 0) = true := by simpa using g3
    rw [Hr.out]
    go_enter Try.func13, Try.ntmps13
    go_wp2_with fail
    go_ret2
    exact ⟨_, rfl, OwnPkL.nil _ _ _ _, below_alloc _ _⟩
  subst g3
  by_cases g4 : body.length > 65515
  · have g4' : (body.length : Int) > 65515 := by omega
    have Hr := hid (show ipCut ⟨src, dst, proto, id, 0, false, whole, ttl, body⟩ mtu = ([], 5) by simp [ipCut, g1]; omega)
    rw [Hr.out]
    go_enter Try.func13, Try.ntmps13
    go_wp2_with fail
    go_ret2
    exact ⟨_, rfl, OwnPkL.nil _ _ _ _, below_alloc _ _⟩
  have g4' : ¬ (body.length : Int) > 65515 := by omega
  by_cases g5 : (body.length : Int) ≤ mtu - 20
  · have Hr := hid (show ipCut ⟨src, dst, proto, id, 0, false, whole, ttl, body⟩ mtu = ([⟨src, dst, proto, id, 0, false, true, ttl, body⟩], 0) by simp [ipCut, g1, g5]; omega)
    rw [Hr.out]
    go_enter Try.func13, Try.ntmps13
    go_wp2_with (first
      | ((go_at_call 32; refine (rtwin_any (.slice A body.length cap) (⟨src, dst, proto, id, 0, false, whole, ttl, body⟩ : Pk) 0 (.slice A body.length cap) body false _ (Hb.out.alloc _) (Hb.out.alloc _) (by omega)).mono ?_; rintro e w' ⟨v1, rfl, hown, hb1⟩); have Hown := hid hown; have Hb1 := hid ((below_alloc w _).trans (hb1.mono (by simp))); obtain ⟨A1, cap1, rfl, _, _, _⟩ := hown.bs.cells; clear hown hb1; dsimp only [pkCells, twinOf]))
    go_ret2
    refine ⟨_, rfl, ⟨[(⟨src, dst, proto, id, 0, false, true, ttl, body⟩, .slice A1 body.length cap1)], ⟨fun q hq => ?_, ?_⟩, rfl⟩, below_alloc' Hb1.out _⟩
    · obtain rfl : q = _ := by simpa using hq
      exact (Hown.out.alloc _).mono (by simp)
    · exact own_litS 9 _ 1 _ rfl (by simp) (by have := Hb1.out.size; simpa using this) (by simp [maxLen])
  obtain ⟨size, hsz⟩ : ∃ n, ipSize mtu = n := ⟨_, rfl⟩
  have hsize : (mtu - 20) / 8 * 8 = (size : Int) := by rw [← hsz]; unfold ipSize; omega
  have hs8 : 8 ≤ size ∧ size ≤ 65536 := by omega
  have Hr := hid (show ipCut ⟨src, dst, proto, id, 0, false, whole, ttl, body⟩ mtu = (partsOf (⟨src, dst, proto, id, 0, false, whole, ttl, body⟩ : Pk) size (List.range ((body.length + size - 1) / size)), 0) by
    simp only [ipCut, hsz]
    rw [if_neg g1, if_neg (by simp), if_neg g4, if_neg g5])
  rw [Hr.out]
  clear hsz
  have Hsize := hid hsize
  go_enter Try.func13, Try.ntmps13
  go_wp2
  have Hp0 := hid (Blk.new w 35 #[.int .u32 (src : Int), .int .u32 (dst : Int), .int .i64 proto, .int .i64 id, .int .i64 0, .bool false, .bool whole, .int .i64 ttl, .slice A body.length cap])
  have hW1 : Below w.heap.size w (w.alloc (.cells #[.int .u32 (src : Int), .int .u32 (dst : Int), .int .i64 proto, .int .i64 id, .int .i64 0, .bool false, .bool whole, .int .i64 ttl, .slice A body.length cap] 35)) := below_alloc w _
  go_loopw [7, 8] (fun o i wr => ∃ (k : Nat) (qs : List (Pk × Value)), k ≤ (body.length + size - 1) / size ∧ i = .int .i64 ((k * size : Nat) : Int) ∧ OwnPks wr (w.heap.size + 1) 35 5 o qs ∧
      qs.map Prod.fst = partsOf (⟨src, dst, proto, id, 0, false, whole, ttl, body⟩ : Pk) size (List.range k) ∧ Blk wr w.heap.size 35 [.int .u32 (src : Int), .int .u32 (dst : Int), .int .i64 proto, .int .i64 id, .int .i64 0, .bool false, .bool whole, .int .i64 ttl, .slice A body.length cap] ∧ Below w.heap.size w wr ∧ w.heap.size + 1 ≤ wr.heap.size) (fun _ i _ => body.length + size - (intOf i).toNat)
  case atStart => exact ⟨0, [], Nat.zero_le _, by simp, ⟨fun _ h => (by cases h), World.ownsRow_nil _ _ _ _⟩, rfl, Hp0.out, hW1, by simp⟩
  case round =>
    obtain ⟨k, qs, hk, rfl, hpk, hqs, hbp, hbel, hsz⟩ := hrel
    obtain ⟨_, Ao, co, rfl, r1, r2, r3⟩ := RowN.of_own hpk.2
    generalize hi0 : k * size = i0 at *
    have HI0 := hid hi0
    clear hi0
    have hc8 := hbp.cell 8
    have hc0 := hbp.cell 0
    have hc1 := hbp.cell 1
    have hc2 := hbp.cell 2
    have hc3 := hbp.cell 3
    have hc4 := hbp.cell 4
    have hc5 := hbp.cell 5
    have hc6 := hbp.cell 6
    have hc7 := hbp.cell 7
    by_cases hlt : i0 < body.length
    · obtain ⟨m, hm⟩ : ∃ m, min size (body.length - i0) = m := ⟨_, rfl⟩
      have Hm := hid hm
      have hm1 : 0 < m ∧ m ≤ size ∧ m ≤ body.length - i0 := by omega
      have hmI : (if (i0 : Int) + (size : Int) < (body.length : Int) then (i0 : Int) + (size : Int) else (body.length : Int)) = (i0 : Int) + (m : Int) := by split <;> omega
      have Hkk := hid (show k + 1 ≤ (body.length + size - 1) / size by
        have h9 : k < (body.length + size - 1) / size := by
          rw [Nat.lt_div_iff_mul_lt (by omega)]
          have := HI0.out
          omega
        exact h9)
      clear hm
      obtain ⟨rb, hrb⟩ : ∃ rb, (body.drop i0).take m = rb := ⟨_, rfl⟩
      have hrl : rb.length = m := by rw [← hrb]; simp; omega
      obtain ⟨mo, hmo⟩ : ∃ mo, decide ((i0 : Int) + (m : Int) < (body.length : Int)) = mo := ⟨_, rfl⟩
      obtain ⟨ii, hii, hz, hss, hby⟩ := info_parts u8info
      have c1 := run_cut (P := Try.prog) (T := 23) Try.underlying23 hii A body.length cap .i64 .i64 (i0 : Int) ((i0 : Int) + (m : Int)) i0 m rfl rfl (by omega)
      rw [hss] at c1
      clear hii hz hss hby
      have hbr : Bs wr (.slice A body.length cap) body := Hb.out.below hbel
      have hbc : Bs wr (.slice (cutA A cap i0 1) m (cap - i0)) rb := by rw [← hrb]; exact Bs.cut hbr (by omega)
      have Hpart := hid (show twinOf (⟨src, dst, proto, id, 0, false, whole, ttl, body⟩ : Pk) (i0 : Int) mo rb = partOf (⟨src, dst, proto, id, 0, false, whole, ttl, body⟩ : Pk) size k k ∧ (decide ((i0 : Int) = 0) && !mo) = false by
        have hw : (decide ((i0 : Int) = 0) && !mo) = false := by
          by_cases hz : i0 = 0
          · have : mo = true := by rw [← hmo]; simp; have := Hm.out; have := Hsize.out; omega
            simp [this]
          · simp; omega
        refine ⟨?_, hw⟩
        have hb2 : (body.drop i0).take size = rb := by
          rw [← hrb]
          by_cases hs : size ≤ body.length - i0
          · rw [show m = size by have := Hm.out; omega]
          · rw [List.take_of_length_le (by simp; omega), List.take_of_length_le (by simp; have := Hm.out; omega)]
        have hd : decide (i0 + m < body.length) = mo := by rw [← hmo]; congr 1; simp only [eq_iff_iff]; omega
        simp only [twinOf, partOf, hw, HI0.out, hb2, Hm.out, hd])
      have HT := fun wx (hx1 : Bs wx (.slice A body.length cap) body) (hx2 : Bs wx (.slice (cutA A cap i0 1) m (cap - i0)) rb) => rtwin_any (.slice A body.length cap) (⟨src, dst, proto, id, 0, false, whole, ttl, body⟩ : Pk) (i0 : Int) (.slice (cutA A cap i0 1) m (cap - i0)) rb mo wx hx1 hx2 (by omega)
      dsimp only [pkCells, twinOf] at HT
      rw [Hpart.out.2] at HT
      have Hrl := hid hrl
      have Hqs := hid hqs
      clear hrl hrb hqs r1 r2 r3
      have hqn : qs.length ≤ 65515 := by
        have h7 := congrArg List.length Hqs.out
        rw [List.length_map, partsOf_len, List.length_range] at h7
        have h8 : k * 1 ≤ k * size := Nat.mul_le_mul_left _ (by omega)
        have := HI0.out
        omega
      go_upto_region 15 with (fail)
      go_region_law (first
        | (go_simp; go_at_call 32; (with_reducible refine (HT _ (by (repeat (first | exact hbr | refine Bs.drew ?_ | refine Bs.drewN ?_ _))) (by (repeat (first | exact hbc | refine Bs.drew ?_ | refine Bs.drewN ?_ _)))).mono ?_); rintro e w2 ⟨v1, rfl, hown, hb1⟩; have hb2 : Below wr.heap.size wr w2 := (by (first | exact (below_drew _).trans hb1 | exact (below_drewN (Below.refl _ _) _).trans hb1 | exact hb1)); obtain ⟨A1, cap1, rfl⟩ := slice_len hown.bs Hrl.out; have Hown := hid hown; have Hb2 := hid hb2; have H2row := hid (own_below hpk.2 hb2); clear hown hb1 hb2)
        | (refine step_appG _ (by rfl) _ _ 32 (by rfl) (w.heap.size + 1) 35 rpkzero 9 72 rpkok (.slice Ao qs.length co) qs.length (pkRow qs) (by rfl) (by first | exact H2row.out.alloc _ | exact H2row.out) (.slice (some ⟨w2.heap.size, 0, none⟩) 1 1) 1 [.int .u32 (src : Int), .int .u32 (dst : Int), .int .i64 proto, .int .i64 id, .int .i64 (i0 : Int), .bool mo, .bool false, .int .i64 ttl, .slice A1 m cap1] (by rfl) (by exact rowS_lit 9 #[.int .u32 (src : Int), .int .u32 (dst : Int), .int .i64 proto, .int .i64 id, .int .i64 (i0 : Int), .bool mo, .bool false, .int .i64 ttl, .slice A1 m cap1] 1 _ rfl (by simp) (by simp [maxLen])) (by simp [Value.oneCell']) (by omega) (by simp only [maxLen]; omega) (by have := Hb2.out.size; simp; omega) ?_; intro v9 w9 hown9 hg9; have hq9 : Below (w.heap.size + 1) wr w9 := (((Hb2.out.mono hsz).alloc (by have := Hb2.out.size; omega) (.cells #[.int .u32 (src : Int), .int .u32 (dst : Int), .int .i64 proto, .int .i64 id, .int .i64 (i0 : Int), .bool mo, .bool false, .int .i64 ttl, .slice A1 m cap1] 35)).trans (grown_below (H2row.out.alloc _) (by have := Hb2.out.size; simp; omega) hg9)); have hbod : ∀ (v : Value) (bs : List UInt8), OwnBs w2 (w.heap.size + 1) 5 v bs → OwnBs w9 (w.heap.size + 1) 5 v bs := fun _ _ ho => ownBs_app (ho.alloc (.cells #[.int .u32 (src : Int), .int .u32 (dst : Int), .int .i64 proto, .int .i64 id, .int .i64 (i0 : Int), .bool mo, .bool false, .int .i64 ttl, .slice A1 m cap1] 35)) (H2row.out.alloc _) (by decide) hg9; obtain ⟨_, A9, c9, rfl, _, _, _⟩ := RowN.of_own hown9; have Hown9 := hid hown9; have Hq9 := hid hq9; have Hbod := hid hbod; clear hown9 hg9 hq9 hbod)
        | fail)
      all_goals
        go_wp2
        go_roundw
        case rel =>
          refine ⟨k + 1, qs ++ [(partOf (⟨src, dst, proto, id, 0, false, whole, ttl, body⟩ : Pk) size k k, .slice A1 m cap1)], Hkk.out, val_int (by have := HI0.out; rw [Nat.succ_mul]; omega), ⟨fun q hq => ?_, ?_⟩, ?_, hbp.below Hq9.out (by omega), hbel.trans (Hq9.out.mono (by omega)), Nat.le_trans hsz Hq9.out.size⟩
          · rcases List.mem_append.1 hq with hq | hq
            · exact Hbod.out _ _ ((hpk.1 q hq).below Hb2.out)
            · obtain rfl : q = _ := by simpa using hq
              rw [show (partOf (⟨src, dst, proto, id, 0, false, whole, ttl, body⟩ : Pk) size k k).body = rb from by rw [← Hpart.out.1]; rfl]
              exact Hbod.out _ _ (Hown.out.mono hsz)
          · rw [pkRow_snoc, List.length_append]
            have he : pkCells (partOf (⟨src, dst, proto, id, 0, false, whole, ttl, body⟩ : Pk) size k k) (.slice A1 m cap1) = [.int .u32 (src : Int), .int .u32 (dst : Int), .int .i64 proto, .int .i64 id, .int .i64 (i0 : Int), .bool mo, .bool false, .int .i64 ttl, .slice A1 m cap1] := by
              rw [← Hpart.out.1]
              simp only [pkCells, twinOf, Hpart.out.2]
            rw [he]
            exact Hown9.out
          · rw [List.map_append, Hqs.out, List.range_succ, partsOf_snoc, List.length_range]
            rfl
        case measure => simp [intOf]; omega
    · have hkK : k = (body.length + size - 1) / size := by
        refine Nat.le_antisymm hk ?_
        rw [Nat.div_le_iff_le_mul_add_pred (by omega)]
        have := HI0.out
        rw [Nat.mul_comm] at this
        omega
      go_wp2
      go_ret2
      exact ⟨_, rfl, ⟨qs, hpk.mono (by omega), by rw [← hkK]; exact hqs⟩, hbel⟩
end Go.Proofs.Ytbjiicnagfeciaa
