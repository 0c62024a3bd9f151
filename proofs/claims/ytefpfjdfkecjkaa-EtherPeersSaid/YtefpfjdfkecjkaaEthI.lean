/- Contracts of peers' frame and Ask. -/
import Derived.Test.YtefpfjdfkecjkaaEthH
namespace Go.Proofs.Ytefpfjdfkecjkaa
open Go Go.RowKit
attribute [local go_sem ↓] Go.wp_at_zero Go.wp_at_succ
set_option maxRecDepth 100000

def arpHead : List UInt8 := [0, 1, 8, 0, 6, 4]
theorem begin_any (w : World) : Calls Try.prog 33 #[] w fun e w' => ∃ v', e = .returned v' ∧ OwnBs w' w.heap.size 5 v' arpHead ∧ Below w.heap.size w w' := by
  go_enter Try.func33, Try.ntmps33
  go_wp2_with fail
  go_ret
  exact ⟨_, rfl, ownBs_lit #[.int .u8 0, .int .u8 1, .int .u8 8, .int .u8 0, .int .u8 6, .int .u8 4] arpHead rfl (Nat.le_refl _) (by decide), below_alloc _ _⟩
/-- the body of a frame of ARP -/
def arpBody (what : Nat) (sm : Mac) (si : Nat) (tm : Mac) (ti : Nat) : List UInt8 := arpHead ++ (beBytes 2 what ++ (sm.bytes ++ (beBytes 4 si ++ (tm.bytes ++ beBytes 4 ti))))
def arpFrame (dst : Mac) (what : Nat) (sm : Mac) (si : Nat) (tm : Mac) (ti : Nat) : List UInt8 := (eWrite ⟨dst, sm, 2054, arpBody what sm si tm ti⟩).1
theorem arp_len (what : Nat) (sm : Mac) (si : Nat) (tm : Mac) (ti : Nat) : (arpBody what sm si tm ti).length = 28 := by
  simp [arpBody, arpHead, Mac.bytes, beBytes_len]
theorem arp_code (dst : Mac) (what : Nat) (sm : Mac) (si : Nat) (tm : Mac) (ti : Nat) : (eWrite ⟨dst, sm, 2054, arpBody what sm si tm ti⟩).2 = 0 := by
  unfold eWrite
  rw [if_neg (by simp), if_neg (by simp [arp_len])]

set_option maxHeartbeats 4000000 in
theorem frame_any (base g : Nat) (mac : Mac) (ip : Nat) (hip : ip < 4294967296) (l : List Peer) (m : Nat) (F : Nat → Prop) (dst : Mac) (what : Nat) (hw : what < 65536) (tm : Mac) (ti : Nat) (hti : ti < 4294967296) (w : World) (h : PeersInv w base g mac ip l m F) :
    Calls Try.prog 34 #[.pointer (some ⟨g, 0, none⟩), dst.val, .int .u64 (what : Int), tm.val, .int .u32 (ti : Int)] w fun e w' => ∃ v', e = .returned v' ∧ OwnBs w' w.heap.size 5 v' (arpFrame dst what mac ip tm ti) ∧ Below w.heap.size w w' := by
  obtain ⟨vr, gM, f, h⟩ := h
  have htab := h.tab
  obtain ⟨a0, a1, a2, a3, a4, a5⟩ := mac
  obtain ⟨b0, b1, b2, b3, b4, b5⟩ := dst
  obtain ⟨d0, d1, d2, d3, d4, d5⟩ := tm
  have Tab := hid htab
  have Hip := hid hip
  have Hw := hid hw
  have Hti := hid hti
  clear h htab hip hw hti
  dsimp only [Mac.val, Mac.cells, List.cons_append, List.nil_append] at Tab ⊢
  have Hp1 := hid (put_fits beBytes arpHead 2 2 [what] rfl rfl (by intro x hx; simp at hx; subst hx; exact Hw.out))
  have Hp2 := fun b => hid (put_fits beBytes b 4 4 [ip] rfl rfl (by intro x hx; simp at hx; subst hx; exact Hip.out))
  have Hp3 := fun b => hid (put_fits beBytes b 4 4 [ti] rfl rfl (by intro x hx; simp at hx; subst hx; exact Hti.out))
  have u1 : IntKind.u64.wrap (ip : Int) = (ip : Int) := IntWalk.u64_in _ (by have := Hip.out; omega)
  have u2 : IntKind.u64.wrap (ti : Int) = (ti : Int) := IntWalk.u64_in _ (by have := Hti.out; omega)
  have hB2 := Blk.new (w.alloc (.cells #[.int .u8 (b0.toNat : Int), .int .u8 (b1.toNat : Int), .int .u8 (b2.toNat : Int), .int .u8 (b3.toNat : Int), .int .u8 (b4.toNat : Int), .int .u8 (b5.toNat : Int)] 23)) 23 #[.int .u8 (d0.toNat : Int), .int .u8 (d1.toNat : Int), .int .u8 (d2.toNat : Int), .int .u8 (d3.toNat : Int), .int .u8 (d4.toNat : Int), .int .u8 (d5.toNat : Int)]
  rw [World.size_alloc] at hB2
  have TB := (Tab.out.alloc (.cells #[.int .u8 (b0.toNat : Int), .int .u8 (b1.toNat : Int), .int .u8 (b2.toNat : Int), .int .u8 (b3.toNat : Int), .int .u8 (b4.toNat : Int), .int .u8 (b5.toNat : Int)] 23)).alloc (.cells #[.int .u8 (d0.toNat : Int), .int .u8 (d1.toNat : Int), .int .u8 (d2.toNat : Int), .int .u8 (d3.toNat : Int), .int .u8 (d4.toNat : Int), .int .u8 (d5.toNat : Int)] 23)
  have BB := (Blk.new w 23 #[.int .u8 (b0.toNat : Int), .int .u8 (b1.toNat : Int), .int .u8 (b2.toNat : Int), .int .u8 (b3.toNat : Int), .int .u8 (b4.toNat : Int), .int .u8 (b5.toNat : Int)]).alloc (.cells #[.int .u8 (d0.toNat : Int), .int .u8 (d1.toNat : Int), .int .u8 (d2.toNat : Int), .int .u8 (d3.toNat : Int), .int .u8 (d4.toNat : Int), .int .u8 (d5.toNat : Int)] 23)
  have HTB := hid TB
  have HBB := hid BB
  have HDB := hid hB2
  clear TB BB
  have HW := hid (below_alloc' (below_alloc w (.cells #[.int .u8 (b0.toNat : Int), .int .u8 (b1.toNat : Int), .int .u8 (b2.toNat : Int), .int .u8 (b3.toNat : Int), .int .u8 (b4.toNat : Int), .int .u8 (b5.toNat : Int)] 23)) (.cells #[.int .u8 (d0.toNat : Int), .int .u8 (d1.toNat : Int), .int .u8 (d2.toNat : Int), .int .u8 (d3.toNat : Int), .int .u8 (d4.toNat : Int), .int .u8 (d5.toNat : Int)] 23))
  clear hB2
  have hsz : w.heap.size + 2 = ((w.alloc (.cells #[.int .u8 (b0.toNat : Int), .int .u8 (b1.toNat : Int), .int .u8 (b2.toNat : Int), .int .u8 (b3.toNat : Int), .int .u8 (b4.toNat : Int), .int .u8 (b5.toNat : Int)] 23)).alloc (.cells #[.int .u8 (d0.toNat : Int), .int .u8 (d1.toNat : Int), .int .u8 (d2.toNat : Int), .int .u8 (d3.toNat : Int), .int .u8 (d4.toNat : Int), .int .u8 (d5.toNat : Int)] 23)).heap.size := by simp
  go_enter Try.func34, Try.ntmps34
  generalize hwz : ((w.alloc (.cells #[.int .u8 (b0.toNat : Int), .int .u8 (b1.toNat : Int), .int .u8 (b2.toNat : Int), .int .u8 (b3.toNat : Int), .int .u8 (b4.toNat : Int), .int .u8 (b5.toNat : Int)] 23)).alloc (.cells #[.int .u8 (d0.toNat : Int), .int .u8 (d1.toNat : Int), .int .u8 (d2.toNat : Int), .int .u8 (d3.toNat : Int), .int .u8 (d4.toNat : Int), .int .u8 (d5.toNat : Int)] 23)) = wz at *
  go_wp2_with (first
    | (go_at_call 33; refine (begin_any _).mono ?_; rintro e w1 ⟨v1, rfl, hown, hb⟩; have K1 := hid hb; have O1 := hid hown; have L1 := hid (show arpHead.length ≤ 20 by decide); clear hown hb)
    | (go_at_call 27; (with_reducible refine (putBe_any v1 arpHead 2 _ [what] _ (O1.out.bs.alloc _) (lit1_u64 (by have := Hw.out; omega)) (by have := L1.out; simp only [List.length_singleton]; omega)).mono ?_); rintro e w2 ⟨v2, rfl, hown, hb⟩; rw [(Hp1).out] at hown ⊢; simp only at hown ⊢; have K2 := hid (K1.out.trans (((below_alloc _ _).trans (hb.mono (by simp))).mono K1.out.size)); have O2 := hid (hown.mono (base' := wz.heap.size) (by have := K1.out.size; simp; omega)); obtain ⟨B2, hB2⟩ : ∃ B, arpHead ++ List.flatMap (beBytes 2) [what] = B := ⟨_, rfl⟩; have E2 := hid hB2; have L2 := hid (show B2.length ≤ 40 by rw [← hB2]; have := L1.out; simp [beBytes_len]; omega); rw [hB2] at O2; clear hown hb hB2)
    | ((with_reducible show wpList _ _ _ (Oper.mk (some 27) _ _ _ _ _ :: _) _ _); refine wpList_app8 _ rfl _ _ 22 rfl wz.heap.size 5 u8ok v2 _ rfl O2.out (.slice (some ⟨g, 0, none⟩) 6 6) (⟨a0, a1, a2, a3, a4, a5⟩ : Mac).bytes rfl ((HTB.out.keep K2.out).bs (off := 0) (n := 6) (cap := 6) rfl rfl (Nat.le_refl _) (by simp [maxLen])) (by have := L2.out; simp [Mac.bytes]; omega) K2.out.size ?_; intro v3 w3 hown hb hg hat; clear hg hat; have K3 := hid (K2.out.trans hb); obtain ⟨B3, hB3⟩ : ∃ B, B2 ++ (⟨a0, a1, a2, a3, a4, a5⟩ : Mac).bytes = B := ⟨_, rfl⟩; have E3 := hid hB3; have L3 := hid (show B3.length ≤ 60 by rw [← hB3]; have := L2.out; simp [Mac.bytes]; omega); rw [hB3] at hown; have O3 := hid hown; have c6 : w3.cell? ⟨g, 6, none⟩ = some (.int .u32 (ip : Int)) := (HTB.out.keep K3.out).cell 6; clear hown hb hB3)
    | (go_at_call 27; (with_reducible refine (putBe_any v3 B3 4 _ [ip] _ (O3.out.bs.alloc _) (lit1_u64 (by have := Hip.out; omega)) (by have := L3.out; simp only [List.length_singleton]; omega)).mono ?_); rintro e w4 ⟨v4, rfl, hown, hb⟩; rw [(Hp2 B3).out] at hown ⊢; simp only at hown ⊢; have K4 := hid (K3.out.trans (((below_alloc _ _).trans (hb.mono (by simp))).mono K3.out.size)); have O4 := hid (hown.mono (base' := wz.heap.size) (by have := K3.out.size; simp; omega)); obtain ⟨B4, hB4⟩ : ∃ B, B3 ++ List.flatMap (beBytes 4) [ip] = B := ⟨_, rfl⟩; have E4 := hid hB4; have L4 := hid (show B4.length ≤ 80 by rw [← hB4]; have := L3.out; simp [beBytes_len]; omega); rw [hB4] at O4; clear hown hb hB4)
    | ((with_reducible show wpList _ _ _ (Oper.mk (some 41) _ _ _ _ _ :: _) _ _); refine wpList_app8 _ rfl _ _ 22 rfl wz.heap.size 5 u8ok v4 _ rfl O4.out (.slice (some ⟨w.heap.size + 1, 0, none⟩) 6 6) (⟨d0, d1, d2, d3, d4, d5⟩ : Mac).bytes rfl ((HDB.out.keep K4.out).bs (off := 0) (n := 6) (cap := 6) rfl rfl (Nat.le_refl _) (by simp [maxLen])) (by have := L4.out; simp [Mac.bytes]; omega) K4.out.size ?_; intro v5 w5 hown hb hg hat; clear hg hat; have K5 := hid (K4.out.trans hb); obtain ⟨B5, hB5⟩ : ∃ B, B4 ++ (⟨d0, d1, d2, d3, d4, d5⟩ : Mac).bytes = B := ⟨_, rfl⟩; have E5 := hid hB5; have L5 := hid (show B5.length ≤ 100 by rw [← hB5]; have := L4.out; simp [Mac.bytes]; omega); rw [hB5] at hown; have O5 := hid hown; clear hown hb hB5)
    | (go_at_call 27; (with_reducible refine (putBe_any v5 B5 4 _ [ti] _ (O5.out.bs.alloc _) (lit1_u64 (by have := Hti.out; omega)) (by have := L5.out; simp only [List.length_singleton]; omega)).mono ?_); rintro e w6 ⟨v6, rfl, hown, hb⟩; rw [(Hp3 B5).out] at hown ⊢; simp only at hown ⊢; have K6 := hid (K5.out.trans (((below_alloc _ _).trans (hb.mono (by simp))).mono K5.out.size)); have O6 := hid (hown.mono (base' := wz.heap.size) (by have := K5.out.size; simp; omega)); obtain ⟨B6, hB6⟩ : ∃ B, B5 ++ List.flatMap (beBytes 4) [ti] = B := ⟨_, rfl⟩; have E6 := hid hB6; have L6 := hid (show B6.length ≤ 120 by rw [← hB6]; have := L5.out; simp [beBytes_len]; omega); rw [hB6] at O6; clear hown hb hB6))
  have HB := hid (show B6 = arpBody what ⟨a0, a1, a2, a3, a4, a5⟩ ip ⟨d0, d1, d2, d3, d4, d5⟩ ti by rw [← E6.out, ← E5.out, ← E4.out, ← E3.out, ← E2.out]; simp [arpBody])
  have hl6 : B6.length = 28 := by rw [HB.out]; exact arp_len _ _ _ _ _
  obtain ⟨A6, cap6, rfl⟩ := slice_len O6.out.bs hl6
  have tb6 := HTB.out.keep K6.out
  have bb6 := HBB.out.keep K6.out
  have HS := hid (And.intro (bb6.cell 0) (And.intro (bb6.cell 1) (And.intro (bb6.cell 2) (And.intro (bb6.cell 3) (And.intro (bb6.cell 4) (And.intro (bb6.cell 5) (And.intro (tb6.cell 0) (And.intro (tb6.cell 1) (And.intro (tb6.cell 2) (And.intro (tb6.cell 3) (And.intro (tb6.cell 4) (tb6.cell 5))))))))))))
  have HWr := fun wx (hx : Bs wx (.slice A6 28 cap6) B6) => write_any ⟨⟨b0, b1, b2, b3, b4, b5⟩, ⟨a0, a1, a2, a3, a4, a5⟩, 2054, B6⟩ A6 28 cap6 wx hx
  dsimp only [Frm.val, Frm.cells, Mac.cells, List.cons_append, List.nil_append] at HWr
  have hb6 := O6.out.bs
  clear c6 tb6 bb6 hl6 u1 u2
  go_region_held3 (fun wy => wy.cell? ⟨w.heap.size, 0, none⟩ = some (.int .u8 (b0.toNat : Int)) ∧ wy.cell? ⟨w.heap.size, 1, none⟩ = some (.int .u8 (b1.toNat : Int)) ∧ wy.cell? ⟨w.heap.size, 2, none⟩ = some (.int .u8 (b2.toNat : Int)) ∧ wy.cell? ⟨w.heap.size, 3, none⟩ = some (.int .u8 (b3.toNat : Int)) ∧ wy.cell? ⟨w.heap.size, 4, none⟩ = some (.int .u8 (b4.toNat : Int)) ∧ wy.cell? ⟨w.heap.size, 5, none⟩ = some (.int .u8 (b5.toNat : Int)) ∧ wy.cell? ⟨g, 0, none⟩ = some (.int .u8 (a0.toNat : Int)) ∧ wy.cell? ⟨g, 1, none⟩ = some (.int .u8 (a1.toNat : Int)) ∧ wy.cell? ⟨g, 2, none⟩ = some (.int .u8 (a2.toNat : Int)) ∧ wy.cell? ⟨g, 3, none⟩ = some (.int .u8 (a3.toNat : Int)) ∧ wy.cell? ⟨g, 4, none⟩ = some (.int .u8 (a4.toNat : Int)) ∧ wy.cell? ⟨g, 5, none⟩ = some (.int .u8 (a5.toNat : Int))) (first | exact keep12 Hb7.out HS.out | exact keep12 (below_drew _) HS.out | exact HS.out) (first
    | (go_at_call 10; (with_reducible refine (HWr _ (by first | exact hb6 | exact hb6.drew)).mono ?_); rintro e w7 ⟨v7, rfl, hown, hb⟩; have Hb7 := hid (show Below w6.heap.size w6 w7 by first | exact hb | exact first_below hb); have O7 := hid hown; clear hown hb)
    | fail)
  all_goals
    go_wp2_with fail
    go_ret
    refine ⟨_, rfl, ?_, HW.out.trans ((K6.out.trans (Hb7.out.mono K6.out.size)).mono HW.out.size)⟩
    unfold arpFrame
    rw [← HB.out]
    exact O7.out.mono (Nat.le_trans HW.out.size K6.out.size)
def Mac.all : Mac := ⟨255, 255, 255, 255, 255, 255⟩
theorem ask_any (base g : Nat) (mac : Mac) (ip : Nat) (hip : ip < 4294967296) (l : List Peer) (m : Nat) (F : Nat → Prop) (ti : Nat) (hti : ti < 4294967296) (w : World) (h : PeersInv w base g mac ip l m F) :
    Calls Try.prog 19 #[.pointer (some ⟨g, 0, none⟩), .int .u32 (ti : Int)] w fun e w' => ∃ v', e = .returned v' ∧ OwnBs w' w.heap.size 5 v' (arpFrame .all 1 mac ip .zero ti) ∧ Below w.heap.size w w' := by
  have HF := frame_any base g mac ip hip l m F .all 1 (by decide) .zero ti hti w h
  dsimp only [Mac.val, Mac.cells, Mac.all, Mac.zero] at HF
  have HF := hid HF
  clear hip hti
  go_enter Try.func19, Try.ntmps19
  go_wp2_with (go_at_call 34; refine HF.out.mono ?_; rintro e w' ⟨v', rfl, hown, hb⟩; have Hown := hid hown; have Hb := hid hb; clear hown hb)
  go_ret
  exact ⟨_, rfl, Hown.out, Hb.out⟩
end Go.Proofs.Ytefpfjdfkecjkaa
