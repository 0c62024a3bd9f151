/- The document's Find, arp, Ask. -/
import Derived.Test.YtefpfjdfkecjkaaEthN
namespace Go.Proofs.Ytefpfjdfkecjkaa
open Go Go.RowKit
attribute [local go_sem ↓] Go.wp_at_zero Go.wp_at_succ
set_option maxRecDepth 100000

theorem pFind_at {l : List Peer} {x j : Nat} (hj : j < l.length) (hx : l[j].1 = x) (h : ∀ i, i < j → (hi : i < l.length) → l[i].1 ≠ x) : pFind l x = some l[j].2 := by
  unfold pFind
  rw [List.find?_eq_some_iff_getElem.2 ⟨by simpa using hx, j, hj, rfl, fun i hi => by simpa using h i hi (by omega)⟩]
  rfl
theorem pFind_none {l : List Peer} {x : Nat} (h : ∀ i, (hi : i < l.length) → l[i].1 ≠ x) : pFind l x = none := by
  unfold pFind
  rw [List.find?_eq_none.2 (fun p hp => by obtain ⟨i, hi, rfl⟩ := List.mem_iff_getElem.1 hp; simpa using h i hi)]
  rfl
set_option maxHeartbeats 2000000 in
theorem rfind_any (base gX : Nat) (mac : Mac) (ip : Nat) (l : List Peer) (FX : Nat → Prop) (x : Nat) (w : World) (h : RPInv w base gX mac ip l FX) :
    Calls Try.prog 23 #[.pointer (some ⟨gX, 0, none⟩), .int .u32 (x : Int)] w (FindPost (pFind l x) w) := by
  obtain ⟨vL, h⟩ := h
  have hn16 := h.len
  have K1 := hid (h.keep (below_alloc w (.cells #[.int .u8 0, .int .u8 0, .int .u8 0, .int .u8 0, .int .u8 0, .int .u8 0] 23)))
  have hB1 := Blk.new w 23 #[.int .u8 0, .int .u8 0, .int .u8 0, .int .u8 0, .int .u8 0, .int .u8 0]
  have B1 := hid hB1
  have Hw1 := hid (below_alloc w (.cells #[.int .u8 0, .int .u8 0, .int .u8 0, .int .u8 0, .int .u8 0, .int .u8 0] 23))
  clear h hB1
  go_enter Try.func23, Try.ntmps23
  go_upto_region 2 with fail
  generalize w.alloc (.cells #[.int .u8 0, .int .u8 0, .int .u8 0, .int .u8 0, .int .u8 0, .int .u8 0] 23) = ws at *
  obtain ⟨n, hn⟩ : ∃ n, l.length = n := ⟨_, rfl⟩
  obtain ⟨A, cap, rfl⟩ := K1.out.row.slice
  have c7 : ws.cell? ⟨gX, 7, none⟩ = some (.slice A n cap) := by rw [← hn]; exact K1.out.tab.cell 7
  have Hrow := hid K1.out.row.rowN
  rw [hn] at Hrow hn16
  go_loopw [6] (fun i wr => ∃ (j : Nat), j ≤ n ∧ i = .int .i64 (j : Int) ∧ wr = ws ∧ ∀ i, i < j → (hi : i < l.length) → l[i].1 ≠ x) (fun i _ => n - (intOf i).toNat)
  case atStart => exact ⟨0, by omega, rfl, rfl, fun i hi => absurd hi (Nat.not_lt_zero _)⟩
  case round =>
    obtain ⟨j, hj, rfl, rfl, hpre⟩ := hrel
    have Hpre := hid hpre
    clear hpre
    by_cases hlt : j < n
    · have t3 : (j : Int) < (n : Int) := by omega
      obtain ⟨_, A', cap', hv', _, _, hA⟩ := Hrow.out
      injection hv' with e1 _ e2
      subst e1; subst e2
      obtain ⟨gr, ofr, rfl, hcell⟩ := hA.resolve_left (by omega)
      have hjl : j < l.length := by rw [hn]; exact hlt
      have hcx := fun f (hf : f < 7) y (hy : (pCells l[j])[f]? = some y) => hcell (j * 7 + f) y ((pRow_at l j f hjl hf).trans hy)
      have hj1 : IntKind.i64.wrap ((j : Int) + 1) = ((j + 1 : Nat) : Int) := by rw [IntWalk.i64_in _ (by omega)]; omega
      obtain ⟨⟨y, b0, b1, b2, b3, b4, b5⟩, hy⟩ : ∃ p, l[j] = p := ⟨_, rfl⟩
      have Hy := hid hy
      rw [hy] at hcx
      have d0 : wr.cell? ⟨gr, ofr + j * 7, none⟩ = some (.int .u32 (y : Int)) := (by rw [← Nat.add_zero (j * 7)]; exact hcx 0 (by decide) _ rfl)
      have d1 : wr.cell? ⟨gr, ofr + j * 7 + 1, none⟩ = some (.int .u8 (b0.toNat : Int)) := (by rw [Nat.add_assoc]; exact hcx 1 (by decide) _ rfl)
      have d2 : wr.cell? ⟨gr, ofr + j * 7 + 1 + 1, none⟩ = some (.int .u8 (b1.toNat : Int)) := (by rw [Nat.add_assoc, Nat.add_assoc]; exact hcx 2 (by decide) _ rfl)
      have d3 : wr.cell? ⟨gr, ofr + j * 7 + 1 + 2, none⟩ = some (.int .u8 (b2.toNat : Int)) := (by rw [Nat.add_assoc, Nat.add_assoc]; exact hcx 3 (by decide) _ rfl)
      have d4 : wr.cell? ⟨gr, ofr + j * 7 + 1 + 3, none⟩ = some (.int .u8 (b3.toNat : Int)) := (by rw [Nat.add_assoc, Nat.add_assoc]; exact hcx 4 (by decide) _ rfl)
      have d5 : wr.cell? ⟨gr, ofr + j * 7 + 1 + 4, none⟩ = some (.int .u8 (b4.toNat : Int)) := (by rw [Nat.add_assoc, Nat.add_assoc]; exact hcx 5 (by decide) _ rfl)
      have d6 : wr.cell? ⟨gr, ofr + j * 7 + 1 + 5, none⟩ = some (.int .u8 (b5.toNat : Int)) := (by rw [Nat.add_assoc, Nat.add_assoc]; exact hcx 6 (by decide) _ rfl)
      clear hA hcell hcx hy hn
      by_cases hyx : y = x
      · have hyb : ((y : Int) == (x : Int)) = true := by simp; omega
        have Hp := hid (show pFind l x = some ⟨b0, b1, b2, b3, b4, b5⟩ by rw [pFind_at hjl (by rw [Hy.out]; exact hyx) Hpre.out, Hy.out])
        clear hyx
        go_wp2_with ((with_reducible show wpList _ _ _ (Oper.mk none _ _ _ _ _ :: _) _ _); refine wpList_storeBlk rfl _ _ _ rfl _ _ rfl rfl _ _ B1.out macinfo rfl rfl ?_; intro w2 hblk hg hsz; have B2 := hid hblk; have Hg2 := hid hg; clear hblk hg hsz)
        refine ret_arr2 rfl _ _ _ _ _ rfl B2.out Try.underlying23 macinfo (.bool true) rfl rfl ?_
        unfold FindPost
        rw [Hp.out]
        exact ⟨rfl, below_own Hw1.out Hg2.out (Nat.le_refl _) Hw1.out.size⟩
      · have hyb : ((y : Int) == (x : Int)) = false := by simp; omega
        have Hn := hid (show l[j].1 ≠ x by rw [Hy.out]; exact hyx)
        clear hyx
        go_wp2_with fail
        go_roundw
        case rel => exact ⟨j + 1, by omega, rfl, trivial, fun i hi hil => by
          by_cases e : i = j
          · subst e; exact Hn.out
          · exact Hpre.out i (by omega) hil⟩
        case measure => simp [intOf]; omega
    · obtain rfl : j = n := by omega
      have t3 : ¬ (j : Int) < (j : Int) := by omega
      have Hp := hid (show pFind l x = none from pFind_none fun i hi => Hpre.out i (by omega) hi)
      clear hn
      go_wp2_with ((with_reducible show wpList _ _ _ (Oper.mk none _ _ _ _ _ :: _) _ _); refine wpList_storeBlk rfl _ _ _ rfl _ _ rfl rfl _ _ B1.out macinfo rfl rfl ?_; intro w2 hblk hg hsz; have B2 := hid hblk; have Hg2 := hid hg; clear hblk hg hsz)
      refine ret_arr2 rfl _ _ _ _ _ rfl B2.out Try.underlying23 macinfo (.bool false) rfl rfl ?_
      unfold FindPost
      rw [Hp.out]
      exact ⟨rfl, below_own Hw1.out Hg2.out (Nat.le_refl _) Hw1.out.size⟩

set_option maxHeartbeats 4000000 in
theorem rarp_any (what : Nat) (hw : what < 65536) (sm : Mac) (si : Nat) (hsi : si < 4294967296) (tm : Mac) (ti : Nat) (hti : ti < 4294967296) (w : World) :
    Calls Try.prog 36 #[.int .i64 (what : Int), sm.val, .int .u32 (si : Int), tm.val, .int .u32 (ti : Int)] w fun e w' => ∃ v', e = .returned v' ∧ OwnBs w' w.heap.size 5 v' (arpBody what sm si tm ti) ∧ Below w.heap.size w w' := by
  obtain ⟨a0, a1, a2, a3, a4, a5⟩ := sm
  obtain ⟨d0, d1, d2, d3, d4, d5⟩ := tm
  have u0 : IntKind.u64.wrap (what : Int) = (what : Int) := IntWalk.u64_in _ (by omega)
  have u1 : IntKind.u64.wrap (si : Int) = (si : Int) := IntWalk.u64_in _ (by omega)
  have u2 : IntKind.u64.wrap (ti : Int) = (ti : Int) := IntWalk.u64_in _ (by omega)
  have hB2 := Blk.new (w.alloc (.cells #[.int .u8 (a0.toNat : Int), .int .u8 (a1.toNat : Int), .int .u8 (a2.toNat : Int), .int .u8 (a3.toNat : Int), .int .u8 (a4.toNat : Int), .int .u8 (a5.toNat : Int)] 23)) 23 #[.int .u8 (d0.toNat : Int), .int .u8 (d1.toNat : Int), .int .u8 (d2.toNat : Int), .int .u8 (d3.toNat : Int), .int .u8 (d4.toNat : Int), .int .u8 (d5.toNat : Int)]
  rw [World.size_alloc] at hB2
  have HAB := hid ((Blk.new w 23 #[.int .u8 (a0.toNat : Int), .int .u8 (a1.toNat : Int), .int .u8 (a2.toNat : Int), .int .u8 (a3.toNat : Int), .int .u8 (a4.toNat : Int), .int .u8 (a5.toNat : Int)]).alloc (.cells #[.int .u8 (d0.toNat : Int), .int .u8 (d1.toNat : Int), .int .u8 (d2.toNat : Int), .int .u8 (d3.toNat : Int), .int .u8 (d4.toNat : Int), .int .u8 (d5.toNat : Int)] 23))
  have HDB := hid hB2
  have HW := hid (below_alloc' (below_alloc w (.cells #[.int .u8 (a0.toNat : Int), .int .u8 (a1.toNat : Int), .int .u8 (a2.toNat : Int), .int .u8 (a3.toNat : Int), .int .u8 (a4.toNat : Int), .int .u8 (a5.toNat : Int)] 23)) (.cells #[.int .u8 (d0.toNat : Int), .int .u8 (d1.toNat : Int), .int .u8 (d2.toNat : Int), .int .u8 (d3.toNat : Int), .int .u8 (d4.toNat : Int), .int .u8 (d5.toNat : Int)] 23))
  have P1 := fun wx v b base (h : OwnBs wx base 5 v b) => put_any v b ⟨a0, a1, a2, a3, a4, a5⟩ wx base h
  have P2 := fun wx v b base (h : OwnBs wx base 5 v b) => put_any v b ⟨d0, d1, d2, d3, d4, d5⟩ wx base h
  clear hB2 hw hsi hti
  dsimp only [Mac.val, Mac.cells] at *
  go_enter Try.func36, Try.ntmps36
  generalize hwz : ((w.alloc (.cells #[.int .u8 (a0.toNat : Int), .int .u8 (a1.toNat : Int), .int .u8 (a2.toNat : Int), .int .u8 (a3.toNat : Int), .int .u8 (a4.toNat : Int), .int .u8 (a5.toNat : Int)] 23)).alloc (.cells #[.int .u8 (d0.toNat : Int), .int .u8 (d1.toNat : Int), .int .u8 (d2.toNat : Int), .int .u8 (d3.toNat : Int), .int .u8 (d4.toNat : Int), .int .u8 (d5.toNat : Int)] 23)) = wz at *
  go_upto_region 2 with (first
    | (go_at_call 28; (refine (rhigh_any _ arpHead 2 what _ wz.heap.size (ownBs_litH #[.int .u8 0, .int .u8 1, .int .u8 8, .int .u8 0, .int .u8 6, .int .u8 4] arpHead 6 _ rfl rfl (by decide) rfl (Nat.le_refl _)) (by simp) (by decide) (by decide)).mono ?_); rintro e w2 ⟨v2, rfl, hown, hb⟩; have K2 := hid ((below_alloc wz _).trans hb); have O2 := hid hown; have m0 := (HAB.out.keep K2.out).cell 0; have m1 := (HAB.out.keep K2.out).cell 1; have m2 := (HAB.out.keep K2.out).cell 2; have m3 := (HAB.out.keep K2.out).cell 3; have m4 := (HAB.out.keep K2.out).cell 4; have m5 := (HAB.out.keep K2.out).cell 5; obtain ⟨B2, hB2⟩ : ∃ B, arpHead ++ beBytes 2 what = B := ⟨_, rfl⟩; have E2 := hid hB2; have L2 := hid (show B2.length = 8 by rw [← hB2]; simp [arpHead, beBytes_len]); rw [hB2] at O2; clear hown hb hB2))
  go_upto_region 3 with (first
    | (go_at_call 29; (refine (P1 _ v2 B2 wz.heap.size O2.out K2.out.size (by have := L2.out; omega)).mono ?_); rintro e w3 ⟨v3, rfl, hown, hb⟩; have K3 := hid (K2.out.trans hb); have O3 := hid hown; obtain ⟨B3, hB3⟩ : ∃ B, B2 ++ (⟨a0, a1, a2, a3, a4, a5⟩ : Mac).bytes = B := ⟨_, rfl⟩; have E3 := hid hB3; have L3 := hid (show B3.length = 14 by rw [← hB3]; have := L2.out; simp [Mac.bytes]; omega); rw [hB3] at O3; clear hown hb hB3 m0 m1 m2 m3 m4 m5)
    | (go_at_call 28; (refine (rhigh_any v3 B3 4 si _ wz.heap.size O3.out K3.out.size (by decide) (by have := L3.out; omega)).mono ?_); rintro e w4 ⟨v4, rfl, hown, hb⟩; have K4 := hid (K3.out.trans hb); have O4 := hid hown; have m0 := (HDB.out.keep K4.out).cell 0; have m1 := (HDB.out.keep K4.out).cell 1; have m2 := (HDB.out.keep K4.out).cell 2; have m3 := (HDB.out.keep K4.out).cell 3; have m4 := (HDB.out.keep K4.out).cell 4; have m5 := (HDB.out.keep K4.out).cell 5; obtain ⟨B4, hB4⟩ : ∃ B, B3 ++ beBytes 4 si = B := ⟨_, rfl⟩; have E4 := hid hB4; have L4 := hid (show B4.length = 18 by rw [← hB4]; have := L3.out; simp [beBytes_len]; omega); rw [hB4] at O4; clear hown hb hB4))
  go_wp2_with (first
    | (go_at_call 29; (refine (P2 _ v4 B4 wz.heap.size O4.out K4.out.size (by have := L4.out; omega)).mono ?_); rintro e w5 ⟨v5, rfl, hown, hb⟩; have K5 := hid (K4.out.trans hb); have O5 := hid hown; obtain ⟨B5, hB5⟩ : ∃ B, B4 ++ (⟨d0, d1, d2, d3, d4, d5⟩ : Mac).bytes = B := ⟨_, rfl⟩; have E5 := hid hB5; have L5 := hid (show B5.length = 24 by rw [← hB5]; have := L4.out; simp [Mac.bytes]; omega); rw [hB5] at O5; clear hown hb hB5 m0 m1 m2 m3 m4 m5)
    | (go_at_call 28; (refine (rhigh_any v5 B5 4 ti _ wz.heap.size O5.out K5.out.size (by decide) (by have := L5.out; omega)).mono ?_); rintro e w6 ⟨v6, rfl, hown, hb⟩; have K6 := hid (K5.out.trans hb); have O6 := hid hown; clear hown hb))
  go_ret
  refine ⟨_, rfl, ?_, HW.out.trans (K6.out.mono HW.out.size)⟩
  have := O6.out.mono (base' := w.heap.size) HW.out.size
  rw [← E5.out, ← E4.out, ← E3.out, ← E2.out] at this
  simpa [arpBody] using this
end Go.Proofs.Ytefpfjdfkecjkaa
