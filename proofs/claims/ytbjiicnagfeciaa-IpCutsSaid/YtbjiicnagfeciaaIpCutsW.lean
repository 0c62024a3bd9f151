/- The walk of IpCuts. -/
import Derived.Test.YtbjiicnagfeciaaIpCutR
import Derived.Test.YtbjiicnagfeciaaIpL
import Derived.Test.YtbjiicnagfeciaaKept
namespace Go.Proofs.Ytbjiicnagfeciaa
open Go Go.RowKit
attribute [local go_sem ↓] Go.wp_at_zero Go.wp_at_succ
set_option maxRecDepth 100000

theorem pkl_len {w : World} {base : Nat} {E U : TypeId} {v : Value} {l : List Pk} (h : OwnPkL w base E U v l) : ∃ A c, v = .slice A l.length c := by
  obtain ⟨qs, ⟨_, hrow⟩, rfl⟩ := h
  obtain ⟨_, A, c, rfl, _⟩ := RowN.of_own hrow
  exact ⟨A, c, by rw [List.length_map]⟩

set_option maxHeartbeats 4000000 in
theorem ipCuts_walk (v : Value) (p : Pk) (mtu : Int) (w : World) (h : Bs w v p.body) (h1 : -9223372036854775808 ≤ mtu) (h2 : mtu ≤ 9223372036854775807) :
    Calls Try.prog 3 #[.agg (pkCells p v).toArray, .int .i64 mtu] w fun e w' => e = .returned (.bool true) ∧ Below w.heap.size w w' := by
  obtain ⟨src, dst, proto, id, off, more, whole, ttl, body⟩ := p
  have HB := hid h
  obtain ⟨A, cap, rfl, k1, k2, _⟩ := h.cells
  clear h
  simp only at k1 HB
  dsimp only [pkCells]
  have K0 := hid ((Kept.new w).add HB.out)
  by_cases hbig : body.length > 16384
  · have g1 : (body.length : Int) > 16384 := by omega
    go_enter Try.func3, Try.ntmps3
    go_wp2_with ((go_at_call 10; refine (known_any _).mono ?_; rintro e w' ⟨rfl, hb1⟩); have K1 := hid (((K0.out.step (below_alloc w _)).addB (Blk.new w 25 #[.int .u32 (src : Int), .int .u32 (dst : Int), .int .i64 proto, .int .i64 id, .int .i64 off, .bool more, .bool whole, .int .i64 ttl, .slice A body.length cap])).step hb1); have hc8 := (K1.out.b 0 rfl).cell 8; clear hb1)
    go_ret
    exact ⟨rfl, K1.out.bel⟩
  have g1 : ¬ (body.length : Int) > 16384 := by omega
  have hl : body.length ≤ 1099511627776 := by omega
  rcases hC : ipCut (⟨src, dst, proto, id, off, more, whole, ttl, body⟩ : Pk) mtu with ⟨l, code⟩
  have HC := hid hC
  clear hC
  have hll : l.length ≤ 1099511627776 := by
    have e : l = (ipCut (⟨src, dst, proto, id, off, more, whole, ttl, body⟩ : Pk) mtu).1 := by rw [HC.out]
    rw [e]
    unfold ipCut
    split
    · simp
    split
    · simp
    split
    · simp
    split
    · simp
    · rename_i c1 _ _ c4
      rw [partsOf_len, List.length_range]
      have : (body.length + ipSize mtu - 1) / ipSize mtu ≤ body.length + ipSize mtu - 1 := Nat.div_le_self _ _
      have : ipSize mtu ≤ 16384 := by unfold ipSize; simp only at c4; omega
      simp only
      omega
  go_enter Try.func3, Try.ntmps3
  go_wp2_with (first
    | ((go_at_call 10; refine (known_any _).mono ?_; rintro e w' ⟨rfl, hb1⟩); have K1 := hid (((K0.out.step (below_alloc w _)).addB (Blk.new w 25 #[.int .u32 (src : Int), .int .u32 (dst : Int), .int .i64 proto, .int .i64 id, .int .i64 off, .bool more, .bool whole, .int .i64 ttl, .slice A body.length cap])).step hb1); have hc8 := (K1.out.b 0 rfl).cell 8; clear hb1)
    | ((with_reducible show wpList _ _ _ (Oper.mk (some 17) _ _ _ _ _ :: _) _ _); refine wpList_loadBlk rfl _ _ rfl _ rfl _ _ _ (K1.out.b 0 rfl) Try.underlying25 pkinfo ?_)
    | ((go_at_call 12; refine (ltwin_any _ (⟨src, dst, proto, id, off, more, whole, ttl, body⟩ : Pk) _ (K1.out.r 0 rfl) hl).mono ?_; rintro e w' ⟨v2, rfl, hown, hb⟩); have K2 := hid ((K1.out.step hb).add hown.bs); obtain ⟨A2, cap2, rfl, _, _, _⟩ := hown.bs.cells; clear hown hb; dsimp only [pkCells])
    | ((go_at_call 11; refine (ipCut_any _ (⟨src, dst, proto, id, off, more, whole, ttl, body⟩ : Pk) mtu _ (K2.out.r 0 rfl) h1 h2).mono ?_; rintro e w' ⟨v3, rfl, hown, hb⟩); rw [HC.out] at hown ⊢; simp only at hown ⊢; have K3 := hid (K2.out.step hb); obtain ⟨A3, cap3, rfl⟩ := pkl_len hown; have H3 := hid hown; clear hown hb)
    | ((with_reducible show wpList _ _ _ (Oper.mk (some 24) _ _ _ _ _ :: _) _ _); refine wpList_loadBlk rfl _ _ rfl _ rfl _ _ _ (K3.out.b 0 rfl) Try.underlying25 pkinfo ?_)
    | ((go_at_call 14; refine (theirs_any _ (⟨src, dst, proto, id, off, more, whole, ttl, body⟩ : Pk) _ (K3.out.r 1 rfl)).mono ?_; rintro e w' ⟨rfl, hb⟩); have K4 := hid (K3.out.step hb); have H4 := hid (H3.out.below hb); clear hb; dsimp only [pkCells])
    | ((go_at_call 13; refine (rCut_any _ (⟨src, dst, proto, id, off, more, whole, ttl, body⟩ : Pk) mtu _ (K4.out.r 1 rfl) h1 h2).mono ?_; rintro e w' ⟨v5, rfl, hown, hb⟩); rw [HC.out] at hown ⊢; simp only at hown ⊢; have K5 := hid (K4.out.step hb); have H5 := hid (H4.out.below hb); obtain ⟨A5, cap5, rfl⟩ := pkl_len hown; have R5 := hid hown; clear hown hb))
  have H5' := hid H5.out
  generalize w' = w5 at *
  go_loopw [9] (fun i wr => ∃ k : Nat, k ≤ l.length ∧ i = .int .i64 k ∧ Below w5.heap.size w5 wr) (fun i _ => l.length - (intOf i).toNat)
  case atStart => exact ⟨0, Nat.zero_le _, rfl, Below.refl _ _⟩
  case round =>
    obtain ⟨k, hk, rfl, hbel⟩ := hrel
    by_cases hkl : k < l.length
    · obtain ⟨g3, c3, vs3, e3, hcap3, hv3, _, _, hat3⟩ := pkl_open (H5.out.below hbel) rfl (by omega)
      obtain ⟨g5, c5, vs5, e5, hcap5, hv5, _, _, hat5⟩ := pkl_open (R5.out.below hbel) rfl (by omega)
      injection e3 with e31 e32 e33
      injection e5 with e51 e52 e53
      subst e31; subst e33; subst e51; subst e53
      obtain ⟨q3, r3⟩ := hat3 k hkl (by omega)
      obtain ⟨q5, r5⟩ := hat5 k hkl (by omega)
      generalize l[k] = P at *
      generalize vs3[k] = u3 at *
      generalize vs5[k] = u5 at *
      obtain ⟨s1, d1, pr1, id1, of1, mo1, wh1, tt1, bd1⟩ := P
      have b3 := q3.bs
      have b5 := q5.bs
      clear q3 q5
      obtain ⟨_, B3, cc3, rfl, _⟩ := (show Bs wr u3 bd1 from b3)
      obtain ⟨_, B5, cc5, rfl, _⟩ := (show Bs wr u5 bd1 from b5)
      have x30 : wr.cell? ⟨g3, k * 9, none⟩ = some (.int .u32 (s1 : Int)) := r3 0 _ rfl
      have x31 : wr.cell? ⟨g3, k * 9 + 1, none⟩ = some (.int .u32 (d1 : Int)) := r3 1 _ rfl
      have x32 : wr.cell? ⟨g3, k * 9 + 2, none⟩ = some (.int .i64 pr1) := r3 2 _ rfl
      have x33 : wr.cell? ⟨g3, k * 9 + 3, none⟩ = some (.int .i64 id1) := r3 3 _ rfl
      have x34 : wr.cell? ⟨g3, k * 9 + 4, none⟩ = some (.int .i64 of1) := r3 4 _ rfl
      have x35 : wr.cell? ⟨g3, k * 9 + 5, none⟩ = some (.bool mo1) := r3 5 _ rfl
      have x36 : wr.cell? ⟨g3, k * 9 + 6, none⟩ = some (.bool wh1) := r3 6 _ rfl
      have x37 : wr.cell? ⟨g3, k * 9 + 7, none⟩ = some (.int .i64 tt1) := r3 7 _ rfl
      have x38 : wr.cell? ⟨g3, k * 9 + 8, none⟩ = some (.slice B3 bd1.length cc3) := r3 8 _ rfl
      have x50 : wr.cell? ⟨g5, k * 9, none⟩ = some (.int .u32 (s1 : Int)) := r5 0 _ rfl
      have x51 : wr.cell? ⟨g5, k * 9 + 1, none⟩ = some (.int .u32 (d1 : Int)) := r5 1 _ rfl
      have x52 : wr.cell? ⟨g5, k * 9 + 2, none⟩ = some (.int .i64 pr1) := r5 2 _ rfl
      have x53 : wr.cell? ⟨g5, k * 9 + 3, none⟩ = some (.int .i64 id1) := r5 3 _ rfl
      have x54 : wr.cell? ⟨g5, k * 9 + 4, none⟩ = some (.int .i64 of1) := r5 4 _ rfl
      have x55 : wr.cell? ⟨g5, k * 9 + 5, none⟩ = some (.bool mo1) := r5 5 _ rfl
      have x56 : wr.cell? ⟨g5, k * 9 + 6, none⟩ = some (.bool wh1) := r5 6 _ rfl
      have x57 : wr.cell? ⟨g5, k * 9 + 7, none⟩ = some (.int .i64 tt1) := r5 7 _ rfl
      have x58 : wr.cell? ⟨g5, k * 9 + 8, none⟩ = some (.slice B5 bd1.length cc5) := r5 8 _ rfl
      have HS := fun wx (y1 : Bs wx (.slice B3 bd1.length cc3) bd1) (y2 : Bs wx (.slice B5 bd1.length cc5) bd1) => same_any (.slice B3 bd1.length cc3) (.slice B5 bd1.length cc5) ⟨s1, d1, pr1, id1, of1, mo1, wh1, tt1, bd1⟩ wx y1 y2
      dsimp only [pkCells] at HS
      clear r3 r5
      go_upto_region 12 with (fail)
      go_region_law (first
        | (go_simp; go_at_call 15; (with_reducible refine (HS _ (by (repeat (first | exact b3 | refine Bs.drew ?_ | refine Bs.drewN ?_ _))) (by (repeat (first | exact b5 | refine Bs.drew ?_ | refine Bs.drewN ?_ _)))).mono ?_); rintro e w2 ⟨rfl, hb1⟩; have hb2 : Below wr.heap.size wr w2 := (by (first | exact (below_drew _).trans hb1 | exact (below_drewN (Below.refl _ _) _).trans hb1 | exact hb1)); have Hb2 := hid hb2; clear hb1 hb2)
        | fail)
      all_goals
        go_wp2
        go_roundw
        case rel => exact ⟨k + 1, by omega, val_int (by omega), hbel.trans (Hb2.out.mono hbel.size)⟩
        case measure => simp [intOf]; omega
    · obtain rfl : k = l.length := by omega
      go_wp2
      go_ret
      exact ⟨rfl, K5.out.bel.trans (hbel.mono K5.out.bel.size)⟩
end Go.Proofs.Ytbjiicnagfeciaa
