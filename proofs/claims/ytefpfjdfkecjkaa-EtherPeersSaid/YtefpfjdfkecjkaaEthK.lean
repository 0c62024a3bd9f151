/- Contract of peers' Hear. -/
import Derived.Test.YtefpfjdfkecjkaaEthJ
namespace Go.Proofs.Ytefpfjdfkecjkaa
open Go Go.RowKit
attribute [local go_sem ↓] Go.wp_at_zero Go.wp_at_succ
set_option maxRecDepth 100000

set_option maxHeartbeats 8000000 in
theorem hear_any (base g : Nat) (mac : Mac) (ip : Nat) (hip : ip < 4294967296) (l : List Peer) (m : Nat) (F : Nat → Prop) (f : Frm) (A : Option Addr) (n cap : Nat) (w : World) (h : PeersInv w base g mac ip l m F) (hm : m < 100000) (hB : Bs w (.slice A n cap) f.body) (hl : n ≤ 1000000) :
    Calls Try.prog 17 #[.pointer (some ⟨g, 0, none⟩), f.val (.slice A n cap)] w (HearPost base g mac ip l m F f w) := by
  obtain ⟨⟨a0, a1, a2, a3, a4, a5⟩, ⟨b0, b1, b2, b3, b4, b5⟩, kind, body⟩ := f
  have hn : body.length = n := by obtain ⟨_, _, _, hv, _⟩ := hB; injection hv with _ h2; exact h2.symm
  have H := hid h
  have HB := hid hB
  have Hn := hid hn
  have Hm := hid hm
  have Hip := hid hip
  dsimp only [Frm.val, Frm.cells, Mac.cells, List.cons_append, List.nil_append]
  by_cases hk : kind = 2054
  case neg =>
    have HC := hid (show hearCode ip ⟨⟨a0, a1, a2, a3, a4, a5⟩, ⟨b0, b1, b2, b3, b4, b5⟩, kind, body⟩ = 3 by unfold hearCode; rw [if_pos hk])
    have hkb : (kind != 2054) = true := by simpa using hk
    clear h hB hn hm hip hk
    go_enter Try.func17, Try.ntmps17
    go_wp2_with fail
    go_ret2
    exact HearPost.refused HC.out (by decide) H.out (below_alloc w _)
  subst hk
  by_cases hlen : n < 28
  · have HC := hid (show hearCode ip ⟨⟨a0, a1, a2, a3, a4, a5⟩, ⟨b0, b1, b2, b3, b4, b5⟩, 2054, body⟩ = 11 by unfold hearCode; rw [if_neg (by simp), if_pos (by rw [hn]; exact hlen)])
    have t1 : (n : Int) < 28 := by omega
    clear h hB hn hm hip
    go_enter Try.func17, Try.ntmps17
    go_wp2_with fail
    go_ret2
    exact HearPost.refused HC.out (by decide) H.out (below_alloc w _)
  have t1 : ¬ (n : Int) < 28 := by omega
  have hcut : ∀ (p q : Nat), p + q ≤ 28 → okSize (q : Int) = true → cutOf body p q = ((body.drop p).take q, 0) := fun p q hpq hq => by
    unfold cutOf
    rw [if_pos hq, if_neg (by omega)]
    simp
  obtain ⟨what, hwhat⟩ : ∃ k, beVal ((body.drop 6).take 2) = k := ⟨_, rfl⟩
  obtain ⟨si, hsi⟩ : ∃ k, beVal ((body.drop 14).take 4) = k := ⟨_, rfl⟩
  obtain ⟨ti, hti⟩ : ∃ k, beVal ((body.drop 24).take 4) = k := ⟨_, rfl⟩
  have lt1 : what < 65536 := by
    have := beVal_lt ((body.drop 6).take 2)
    rw [hwhat] at this
    rw [show ((body.drop 6).take 2).length = 2 by simp; omega] at this
    exact this
  have lt2 : si < 4294967296 := by
    have := beVal_lt ((body.drop 14).take 4)
    rw [hsi] at this
    rw [show ((body.drop 14).take 4).length = 4 by simp; omega] at this
    exact this
  have lt3 : ti < 4294967296 := by
    have := beVal_lt ((body.drop 24).take 4)
    rw [hti] at this
    rw [show ((body.drop 24).take 4).length = 4 by simp; omega] at this
    exact this
  obtain ⟨bad, hbad⟩ : ∃ b, decide (body.take 6 ≠ arpHead ∨ what ≠ 1 ∧ what ≠ 2) = b := ⟨_, rfl⟩
  have HC := hid (show hearCode ip ⟨⟨a0, a1, a2, a3, a4, a5⟩, ⟨b0, b1, b2, b3, b4, b5⟩, 2054, body⟩ = if bad = true then 15 else if ti ≠ ip then 18 else 0 by
    unfold hearCode
    rw [if_neg (by simp), if_neg (by rw [hn]; exact hlen)]
    simp only [hwhat, hti]
    rw [← hbad]
    simp only [decide_eq_true_eq])
  have C1 := hid (show cutOf body 6 2 = ((body.drop 6).take 2, 0) from hcut 6 2 (by omega) rfl)
  have C2 := hid (show cutOf body 14 4 = ((body.drop 14).take 4, 0) from hcut 14 4 (by omega) rfl)
  have C3 := hid (show cutOf body 24 4 = ((body.drop 24).take 4, 0) from hcut 24 4 (by omega) rfl)
  have Hwhat := hid hwhat
  have Hsi := hid hsi
  have Hti := hid hti
  have Hlt := hid (And.intro lt1 (And.intro lt2 lt3))
  have Hbad := hid hbad
  obtain ⟨_, hcap1, hcap2, k3⟩ := Bs.open hB
  obtain ⟨gb, off, rfl, hc⟩ := k3.resolve_left (by omega)
  have HCE := hid hc
  have Hcap := hid (And.intro hcap1 hcap2)
  have s1 := cut8_to (some ⟨gb, off, none⟩) n cap 6 6 rfl (by omega)
  have Hhead := hid (hB.cut (l := 0) (k := 6) (by omega))
  rw [List.drop_zero] at Hhead
  have Hlen := hid (show 28 ≤ n by omega)
  clear h hm hip hcut hwhat hsi hti lt1 lt2 lt3 hbad k3 hc hcap1 hcap2 hB hn hlen
  go_enter Try.func17, Try.ntmps17
  go_upto_region 9 with (first
    | (go_at_call 24; (with_reducible refine (be_any _ body 6 2 _ (HB.out.alloc _) (by decide) (by decide)).mono ?_); rintro e w' ⟨rfl, rfl⟩; rw [C1.out]; dsimp only; rw [Hwhat.out])
    | (go_at_call 24; (with_reducible refine (be_any _ body 14 4 _ (HB.out.alloc _) (by decide) (by decide)).mono ?_); rintro e w' ⟨rfl, rfl⟩; rw [C2.out]; dsimp only; rw [Hsi.out])
    | (go_at_call 24; (with_reducible refine (be_any _ body 24 4 _ (HB.out.alloc _) (by decide) (by decide)).mono ?_); rintro e w' ⟨rfl, rfl⟩; rw [C3.out]; dsimp only; rw [Hti.out]))
  have Hz := hid (HB.out.alloc (.cells #[.int .u8 (a0.toNat : Int), .int .u8 (a1.toNat : Int), .int .u8 (a2.toNat : Int), .int .u8 (a3.toNat : Int), .int .u8 (a4.toNat : Int), .int .u8 (a5.toNat : Int), .int .u8 (b0.toNat : Int), .int .u8 (b1.toNat : Int), .int .u8 (b2.toNat : Int), .int .u8 (b3.toNat : Int), .int .u8 (b4.toNat : Int), .int .u8 (b5.toNat : Int), .int .i64 2054, .slice (some ⟨gb, off, none⟩) n cap] 25))
  have Hh := hid (Hhead.alloc (.cells #[.int .u8 (a0.toNat : Int), .int .u8 (a1.toNat : Int), .int .u8 (a2.toNat : Int), .int .u8 (a3.toNat : Int), .int .u8 (a4.toNat : Int), .int .u8 (a5.toNat : Int), .int .u8 (b0.toNat : Int), .int .u8 (b1.toNat : Int), .int .u8 (b2.toNat : Int), .int .u8 (b3.toNat : Int), .int .u8 (b4.toNat : Int), .int .u8 (b5.toNat : Int), .int .i64 2054, .slice (some ⟨gb, off, none⟩) n cap] 25))
  have HP := hid (H.out.keep (below_alloc w (.cells #[.int .u8 (a0.toNat : Int), .int .u8 (a1.toNat : Int), .int .u8 (a2.toNat : Int), .int .u8 (a3.toNat : Int), .int .u8 (a4.toNat : Int), .int .u8 (a5.toNat : Int), .int .u8 (b0.toNat : Int), .int .u8 (b1.toNat : Int), .int .u8 (b2.toNat : Int), .int .u8 (b3.toNat : Int), .int .u8 (b4.toNat : Int), .int .u8 (b5.toNat : Int), .int .i64 2054, .slice (some ⟨gb, off, none⟩) n cap] 25)))
  have HW := hid (below_alloc w (.cells #[.int .u8 (a0.toNat : Int), .int .u8 (a1.toNat : Int), .int .u8 (a2.toNat : Int), .int .u8 (a3.toNat : Int), .int .u8 (a4.toNat : Int), .int .u8 (a5.toNat : Int), .int .u8 (b0.toNat : Int), .int .u8 (b1.toNat : Int), .int .u8 (b2.toNat : Int), .int .u8 (b3.toNat : Int), .int .u8 (b4.toNat : Int), .int .u8 (b5.toNat : Int), .int .i64 2054, .slice (some ⟨gb, off, none⟩) n cap] 25))
  clear Hhead
  generalize w.alloc (.cells #[.int .u8 (a0.toNat : Int), .int .u8 (a1.toNat : Int), .int .u8 (a2.toNat : Int), .int .u8 (a3.toNat : Int), .int .u8 (a4.toNat : Int), .int .u8 (a5.toNat : Int), .int .u8 (b0.toNat : Int), .int .u8 (b1.toNat : Int), .int .u8 (b2.toNat : Int), .int .u8 (b3.toNat : Int), .int .u8 (b4.toNat : Int), .int .u8 (b5.toNat : Int), .int .i64 2054, .slice (some ⟨gb, off, none⟩) n cap] 25) = wz at *
  go_cut [39] from 40 to 53 (fun s wx => s = .bool bad ∧ Below wz.heap.size wz wx)
  case first =>
    have hh : Bs wz (.slice (cutA (some ⟨gb, off, none⟩) cap 0 1) 6 cap) (body.take 6) := Hh.out
    have HEQ : ∀ wx u, Bs wx u arpHead → Bs wx (.slice (cutA (some ⟨gb, off, none⟩) cap 0 1) 6 cap) (body.take 6) → Calls Try.prog 32 #[.slice (cutA (some ⟨gb, off, none⟩) cap 0 1) 6 cap, u] wx fun e w' => e = .returned (.bool (decide (body.take 6 = arpHead))) ∧ ∃ q, w' = wx.drewN q := fun wx u hu hx => equal_any _ u _ _ wx hx hu (by simp; omega)
    by_cases heq : body.take 6 = arpHead
    · rw [decide_eq_true heq] at HEQ
      by_cases hw1 : what = 1
      · have t2 : ((what : Int) != 1) = false := by simp; omega
        have hb0 : bad = false := by rw [← Hbad.out]; exact decide_eq_false (fun q => by rcases q with q | q; exact q heq; omega)
        subst hb0
        clear heq hw1
        (refine wp_region_held_drew (S := fun _ => True) (by kernel_rfl) trivial (fun _ => ?_))
        (refine wpAnyH_take (i := 0) (v := .slice (some ⟨gb, off, none⟩) n cap) rfl (by kernel_rfl) (by kernel_rfl) (by kernel_rfl) (fun _ _ _ h => h) (Or.inl ⟨by rfl, by intro wq hSw; go_simp⟩) trivial ?_; (try simp only [Act.put, List.setIfInBounds_toArray]))
        (refine wpAnyH_take (i := 1) (v := .slice (cutA (some ⟨gb, off, none⟩) cap 0 1) 6 cap) rfl (by kernel_rfl) (by kernel_rfl) (by kernel_rfl) (fun _ _ _ h => h) (Or.inl ⟨by rfl, by intro wq hSw; go_simp⟩) trivial ?_; (try simp only [Act.put]))
        (refine wpAnyH_ready (rs := [2]) (by kernel_rfl) (by simp) ?_; refine AllReadyH.cons rfl (fun K hK => ?_) AllReadyH.nil; go_simp)
        (go_at_call 33; (with_reducible refine (begin_any _).mono ?_); rintro e w2 ⟨u2, rfl, hown, hb⟩; have Hb2 := hid (show Below wz.heap.size wz w2 by first | exact hb | exact first_below hb); have hu2 := hown.bs; have hh2 := hh.below Hb2.out; clear hown hb)
        (refine hK.out _ _ trivial (fun _ => ?_); clear hK K; (try simp only [Act.put, List.setIfInBounds_toArray, List.set_cons_zero, List.set_cons_succ]))
        (refine wpAnyH_ready (rs := [3]) (by kernel_rfl) (by simp) ?_; refine AllReadyH.cons rfl (fun K hK => ?_) AllReadyH.nil; go_simp)
        (go_at_call 32; (with_reducible refine (HEQ _ u2 (by first | exact hu2 | exact hu2.drew) (by first | exact hh2 | exact hh2.drew)).mono ?_); rintro e w3 ⟨rfl, q, rfl⟩)
        (refine hK.out _ _ trivial (fun _ => ?_); clear hK K; (try simp only [Act.put, List.setIfInBounds_toArray, List.set_cons_zero, List.set_cons_succ]))
        (refine wpAnyH_ready (rs := [4]) (by kernel_rfl) (by simp) ?_; refine AllReadyH.cons rfl (fun K hK => ?_) AllReadyH.nil; go_simp)
        (refine hK.out _ _ trivial (fun _ => ?_); clear hK K; (try simp only [Act.put, List.setIfInBounds_toArray, List.set_cons_zero, List.set_cons_succ]))
        (refine wpAnyH_ready (rs := [5]) (by kernel_rfl) (by simp) ?_; refine AllReadyH.cons rfl (fun K hK => ?_) AllReadyH.nil; go_simp)
        (refine hK.out _ _ trivial (fun _ => ?_); clear hK K; (try simp only [Act.put, List.setIfInBounds_toArray, List.set_cons_zero, List.set_cons_succ]))
        (refine wpAnyH_ready (rs := [6]) (by kernel_rfl) (by simp) ?_; refine AllReadyH.cons rfl (fun K hK => ?_) AllReadyH.nil; go_simp)
        (refine hK.out _ _ trivial (fun _ => ?_); clear hK K; (try simp only [Act.put, List.setIfInBounds_toArray, List.set_cons_zero, List.set_cons_succ]))
        (refine wpAnyH_ready (rs := [7]) (by kernel_rfl) (by simp) ?_; refine AllReadyH.cons rfl (fun K hK => ?_) AllReadyH.nil; go_simp)
        (refine hK.out _ _ trivial (fun _ => ?_); clear hK K; (try simp only [Act.put, List.setIfInBounds_toArray, List.set_cons_zero, List.set_cons_succ]))
        (refine wpAnyH_ready (rs := [8]) (by kernel_rfl) (by simp) ?_; refine AllReadyH.cons rfl (fun K hK => ?_) AllReadyH.nil; go_simp)
        (refine hK.out _ _ trivial (fun _ => ?_); clear hK K; (try simp only [Act.put, List.setIfInBounds_toArray, List.set_cons_zero, List.set_cons_succ]))
        (refine wpAnyH_ready (rs := [9]) (by kernel_rfl) (by simp) ?_; refine AllReadyH.cons rfl (fun K hK => ?_) AllReadyH.nil; go_simp)
        (refine hK.out _ _ trivial (fun _ => ?_); clear hK K; (try simp only [Act.put, List.setIfInBounds_toArray, List.set_cons_zero, List.set_cons_succ]))
        (refine wpAnyH_ready (rs := [10]) (by kernel_rfl) (by simp) ?_; refine AllReadyH.cons rfl (fun K hK => ?_) AllReadyH.nil; go_simp)
        (refine hK.out _ _ trivial (fun _ => ?_); clear hK K; (try simp only [Act.put, List.setIfInBounds_toArray, List.set_cons_zero, List.set_cons_succ]))
        (refine wpAnyH_ready (rs := [11]) (by kernel_rfl) (by simp) ?_; refine AllReadyH.cons rfl (fun K hK => ?_) AllReadyH.nil; go_simp)
        (refine hK.out _ _ trivial (fun _ => ?_); clear hK K; (try simp only [Act.put, List.setIfInBounds_toArray, List.set_cons_zero, List.set_cons_succ]))
        (refine wpAnyH_ready (rs := [12]) (by kernel_rfl) (by simp) ?_; refine AllReadyH.cons rfl (fun K hK => ?_) AllReadyH.nil; go_simp)
        (refine hK.out _ _ trivial (fun _ => ?_); clear hK K; (try simp only [Act.put, List.setIfInBounds_toArray, List.set_cons_zero, List.set_cons_succ]))
        (refine wpAnyH_ready (rs := [13]) (by kernel_rfl) (by simp) ?_; refine AllReadyH.cons rfl (fun K hK => ?_) AllReadyH.nil; go_simp)
        (refine hK.out _ _ trivial (fun _ => ?_); clear hK K; (try simp only [Act.put, List.setIfInBounds_toArray, List.set_cons_zero, List.set_cons_succ]))
        refine wpAnyH_done (by kernel_rfl) ?_ _
        all_goals
          go_wp2_with fail
          go_meet
          case rel => exact ⟨rfl, by first | exact below_drewN Hb2.out _ | exact below_drewN (below_drewN Hb2.out _) _ | exact below_drewN (Hb2.out.drew) _⟩
      by_cases hw2 : what = 2
      · have t2 : ((what : Int) != 1) = true := by simp; omega
        have t3 : ((what : Int) != 2) = false := by simp; omega
        have hb0 : bad = false := by rw [← Hbad.out]; exact decide_eq_false (fun q => by rcases q with q | q; exact q heq; omega)
        subst hb0
        clear heq hw1 hw2
        (refine wp_region_held_drew (S := fun _ => True) (by kernel_rfl) trivial (fun _ => ?_))
        (refine wpAnyH_take (i := 0) (v := .slice (some ⟨gb, off, none⟩) n cap) rfl (by kernel_rfl) (by kernel_rfl) (by kernel_rfl) (fun _ _ _ h => h) (Or.inl ⟨by rfl, by intro wq hSw; go_simp⟩) trivial ?_; (try simp only [Act.put, List.setIfInBounds_toArray]))
        (refine wpAnyH_take (i := 1) (v := .slice (cutA (some ⟨gb, off, none⟩) cap 0 1) 6 cap) rfl (by kernel_rfl) (by kernel_rfl) (by kernel_rfl) (fun _ _ _ h => h) (Or.inl ⟨by rfl, by intro wq hSw; go_simp⟩) trivial ?_; (try simp only [Act.put]))
        (refine wpAnyH_ready (rs := [2]) (by kernel_rfl) (by simp) ?_; refine AllReadyH.cons rfl (fun K hK => ?_) AllReadyH.nil; go_simp)
        (go_at_call 33; (with_reducible refine (begin_any _).mono ?_); rintro e w2 ⟨u2, rfl, hown, hb⟩; have Hb2 := hid (show Below wz.heap.size wz w2 by first | exact hb | exact first_below hb); have hu2 := hown.bs; have hh2 := hh.below Hb2.out; clear hown hb)
        (refine hK.out _ _ trivial (fun _ => ?_); clear hK K; (try simp only [Act.put, List.setIfInBounds_toArray, List.set_cons_zero, List.set_cons_succ]))
        (refine wpAnyH_ready (rs := [3]) (by kernel_rfl) (by simp) ?_; refine AllReadyH.cons rfl (fun K hK => ?_) AllReadyH.nil; go_simp)
        (go_at_call 32; (with_reducible refine (HEQ _ u2 (by first | exact hu2 | exact hu2.drew) (by first | exact hh2 | exact hh2.drew)).mono ?_); rintro e w3 ⟨rfl, q, rfl⟩)
        (refine hK.out _ _ trivial (fun _ => ?_); clear hK K; (try simp only [Act.put, List.setIfInBounds_toArray, List.set_cons_zero, List.set_cons_succ]))
        (refine wpAnyH_ready (rs := [4]) (by kernel_rfl) (by simp) ?_; refine AllReadyH.cons rfl (fun K hK => ?_) AllReadyH.nil; go_simp)
        (refine hK.out _ _ trivial (fun _ => ?_); clear hK K; (try simp only [Act.put, List.setIfInBounds_toArray, List.set_cons_zero, List.set_cons_succ]))
        (refine wpAnyH_ready (rs := [5]) (by kernel_rfl) (by simp) ?_; refine AllReadyH.cons rfl (fun K hK => ?_) AllReadyH.nil; go_simp)
        (refine hK.out _ _ trivial (fun _ => ?_); clear hK K; (try simp only [Act.put, List.setIfInBounds_toArray, List.set_cons_zero, List.set_cons_succ]))
        (refine wpAnyH_ready (rs := [6]) (by kernel_rfl) (by simp) ?_; refine AllReadyH.cons rfl (fun K hK => ?_) AllReadyH.nil; go_simp)
        (refine hK.out _ _ trivial (fun _ => ?_); clear hK K; (try simp only [Act.put, List.setIfInBounds_toArray, List.set_cons_zero, List.set_cons_succ]))
        (refine wpAnyH_ready (rs := [7]) (by kernel_rfl) (by simp) ?_; refine AllReadyH.cons rfl (fun K hK => ?_) AllReadyH.nil; go_simp)
        (refine hK.out _ _ trivial (fun _ => ?_); clear hK K; (try simp only [Act.put, List.setIfInBounds_toArray, List.set_cons_zero, List.set_cons_succ]))
        (refine wpAnyH_ready (rs := [8]) (by kernel_rfl) (by simp) ?_; refine AllReadyH.cons rfl (fun K hK => ?_) AllReadyH.nil; go_simp)
        (refine hK.out _ _ trivial (fun _ => ?_); clear hK K; (try simp only [Act.put, List.setIfInBounds_toArray, List.set_cons_zero, List.set_cons_succ]))
        (refine wpAnyH_ready (rs := [9]) (by kernel_rfl) (by simp) ?_; refine AllReadyH.cons rfl (fun K hK => ?_) AllReadyH.nil; go_simp)
        (refine hK.out _ _ trivial (fun _ => ?_); clear hK K; (try simp only [Act.put, List.setIfInBounds_toArray, List.set_cons_zero, List.set_cons_succ]))
        (refine wpAnyH_ready (rs := [10]) (by kernel_rfl) (by simp) ?_; refine AllReadyH.cons rfl (fun K hK => ?_) AllReadyH.nil; go_simp)
        (refine hK.out _ _ trivial (fun _ => ?_); clear hK K; (try simp only [Act.put, List.setIfInBounds_toArray, List.set_cons_zero, List.set_cons_succ]))
        (refine wpAnyH_ready (rs := [11]) (by kernel_rfl) (by simp) ?_; refine AllReadyH.cons rfl (fun K hK => ?_) AllReadyH.nil; go_simp)
        (refine hK.out _ _ trivial (fun _ => ?_); clear hK K; (try simp only [Act.put, List.setIfInBounds_toArray, List.set_cons_zero, List.set_cons_succ]))
        (refine wpAnyH_ready (rs := [12]) (by kernel_rfl) (by simp) ?_; refine AllReadyH.cons rfl (fun K hK => ?_) AllReadyH.nil; go_simp)
        (refine hK.out _ _ trivial (fun _ => ?_); clear hK K; (try simp only [Act.put, List.setIfInBounds_toArray, List.set_cons_zero, List.set_cons_succ]))
        (refine wpAnyH_ready (rs := [13]) (by kernel_rfl) (by simp) ?_; refine AllReadyH.cons rfl (fun K hK => ?_) AllReadyH.nil; go_simp)
        (refine hK.out _ _ trivial (fun _ => ?_); clear hK K; (try simp only [Act.put, List.setIfInBounds_toArray, List.set_cons_zero, List.set_cons_succ]))
        refine wpAnyH_done (by kernel_rfl) ?_ _
        all_goals
          go_wp2_with fail
          go_meet
          case rel => exact ⟨rfl, by first | exact below_drewN Hb2.out _ | exact below_drewN (below_drewN Hb2.out _) _ | exact below_drewN (Hb2.out.drew) _⟩
      · have t2 : ((what : Int) != 1) = true := by simp; omega
        have t3 : ((what : Int) != 2) = true := by simp; omega
        have hb0 : bad = true := by rw [← Hbad.out]; exact decide_eq_true (.inr ⟨hw1, hw2⟩)
        subst hb0
        clear heq hw1 hw2
        (refine wp_region_held_drew (S := fun _ => True) (by kernel_rfl) trivial (fun _ => ?_))
        (refine wpAnyH_take (i := 0) (v := .slice (some ⟨gb, off, none⟩) n cap) rfl (by kernel_rfl) (by kernel_rfl) (by kernel_rfl) (fun _ _ _ h => h) (Or.inl ⟨by rfl, by intro wq hSw; go_simp⟩) trivial ?_; (try simp only [Act.put, List.setIfInBounds_toArray]))
        (refine wpAnyH_take (i := 1) (v := .slice (cutA (some ⟨gb, off, none⟩) cap 0 1) 6 cap) rfl (by kernel_rfl) (by kernel_rfl) (by kernel_rfl) (fun _ _ _ h => h) (Or.inl ⟨by rfl, by intro wq hSw; go_simp⟩) trivial ?_; (try simp only [Act.put]))
        (refine wpAnyH_ready (rs := [2]) (by kernel_rfl) (by simp) ?_; refine AllReadyH.cons rfl (fun K hK => ?_) AllReadyH.nil; go_simp)
        (go_at_call 33; (with_reducible refine (begin_any _).mono ?_); rintro e w2 ⟨u2, rfl, hown, hb⟩; have Hb2 := hid (show Below wz.heap.size wz w2 by first | exact hb | exact first_below hb); have hu2 := hown.bs; have hh2 := hh.below Hb2.out; clear hown hb)
        (refine hK.out _ _ trivial (fun _ => ?_); clear hK K; (try simp only [Act.put, List.setIfInBounds_toArray, List.set_cons_zero, List.set_cons_succ]))
        (refine wpAnyH_ready (rs := [3]) (by kernel_rfl) (by simp) ?_; refine AllReadyH.cons rfl (fun K hK => ?_) AllReadyH.nil; go_simp)
        (go_at_call 32; (with_reducible refine (HEQ _ u2 (by first | exact hu2 | exact hu2.drew) (by first | exact hh2 | exact hh2.drew)).mono ?_); rintro e w3 ⟨rfl, q, rfl⟩)
        (refine hK.out _ _ trivial (fun _ => ?_); clear hK K; (try simp only [Act.put, List.setIfInBounds_toArray, List.set_cons_zero, List.set_cons_succ]))
        (refine wpAnyH_ready (rs := [4]) (by kernel_rfl) (by simp) ?_; refine AllReadyH.cons rfl (fun K hK => ?_) AllReadyH.nil; go_simp)
        (refine hK.out _ _ trivial (fun _ => ?_); clear hK K; (try simp only [Act.put, List.setIfInBounds_toArray, List.set_cons_zero, List.set_cons_succ]))
        (refine wpAnyH_ready (rs := [5]) (by kernel_rfl) (by simp) ?_; refine AllReadyH.cons rfl (fun K hK => ?_) AllReadyH.nil; go_simp)
        (refine hK.out _ _ trivial (fun _ => ?_); clear hK K; (try simp only [Act.put, List.setIfInBounds_toArray, List.set_cons_zero, List.set_cons_succ]))
        (refine wpAnyH_ready (rs := [6]) (by kernel_rfl) (by simp) ?_; refine AllReadyH.cons rfl (fun K hK => ?_) AllReadyH.nil; go_simp)
        (refine hK.out _ _ trivial (fun _ => ?_); clear hK K; (try simp only [Act.put, List.setIfInBounds_toArray, List.set_cons_zero, List.set_cons_succ]))
        (refine wpAnyH_ready (rs := [7]) (by kernel_rfl) (by simp) ?_; refine AllReadyH.cons rfl (fun K hK => ?_) AllReadyH.nil; go_simp)
        (refine hK.out _ _ trivial (fun _ => ?_); clear hK K; (try simp only [Act.put, List.setIfInBounds_toArray, List.set_cons_zero, List.set_cons_succ]))
        (refine wpAnyH_ready (rs := [8]) (by kernel_rfl) (by simp) ?_; refine AllReadyH.cons rfl (fun K hK => ?_) AllReadyH.nil; go_simp)
        (refine hK.out _ _ trivial (fun _ => ?_); clear hK K; (try simp only [Act.put, List.setIfInBounds_toArray, List.set_cons_zero, List.set_cons_succ]))
        (refine wpAnyH_ready (rs := [9]) (by kernel_rfl) (by simp) ?_; refine AllReadyH.cons rfl (fun K hK => ?_) AllReadyH.nil; go_simp)
        (refine hK.out _ _ trivial (fun _ => ?_); clear hK K; (try simp only [Act.put, List.setIfInBounds_toArray, List.set_cons_zero, List.set_cons_succ]))
        (refine wpAnyH_ready (rs := [10]) (by kernel_rfl) (by simp) ?_; refine AllReadyH.cons rfl (fun K hK => ?_) AllReadyH.nil; go_simp)
        (refine hK.out _ _ trivial (fun _ => ?_); clear hK K; (try simp only [Act.put, List.setIfInBounds_toArray, List.set_cons_zero, List.set_cons_succ]))
        (refine wpAnyH_ready (rs := [11]) (by kernel_rfl) (by simp) ?_; refine AllReadyH.cons rfl (fun K hK => ?_) AllReadyH.nil; go_simp)
        (refine hK.out _ _ trivial (fun _ => ?_); clear hK K; (try simp only [Act.put, List.setIfInBounds_toArray, List.set_cons_zero, List.set_cons_succ]))
        (refine wpAnyH_ready (rs := [12]) (by kernel_rfl) (by simp) ?_; refine AllReadyH.cons rfl (fun K hK => ?_) AllReadyH.nil; go_simp)
        (refine hK.out _ _ trivial (fun _ => ?_); clear hK K; (try simp only [Act.put, List.setIfInBounds_toArray, List.set_cons_zero, List.set_cons_succ]))
        (refine wpAnyH_ready (rs := [13]) (by kernel_rfl) (by simp) ?_; refine AllReadyH.cons rfl (fun K hK => ?_) AllReadyH.nil; go_simp)
        (refine hK.out _ _ trivial (fun _ => ?_); clear hK K; (try simp only [Act.put, List.setIfInBounds_toArray, List.set_cons_zero, List.set_cons_succ]))
        refine wpAnyH_done (by kernel_rfl) ?_ _
        all_goals
          go_wp2_with fail
          go_meet
          case rel => exact ⟨rfl, by first | exact below_drewN Hb2.out _ | exact below_drewN (below_drewN Hb2.out _) _ | exact below_drewN (Hb2.out.drew) _⟩
    · rw [decide_eq_false heq] at HEQ
      have hb0 : bad = true := by rw [← Hbad.out]; exact decide_eq_true (.inl heq)
      subst hb0
      clear heq
      (refine wp_region_held_drew (S := fun _ => True) (by kernel_rfl) trivial (fun _ => ?_))
      (refine wpAnyH_take (i := 0) (v := .slice (some ⟨gb, off, none⟩) n cap) rfl (by kernel_rfl) (by kernel_rfl) (by kernel_rfl) (fun _ _ _ h => h) (Or.inl ⟨by rfl, by intro wq hSw; go_simp⟩) trivial ?_; (try simp only [Act.put, List.setIfInBounds_toArray]))
      (refine wpAnyH_take (i := 1) (v := .slice (cutA (some ⟨gb, off, none⟩) cap 0 1) 6 cap) rfl (by kernel_rfl) (by kernel_rfl) (by kernel_rfl) (fun _ _ _ h => h) (Or.inl ⟨by rfl, by intro wq hSw; go_simp⟩) trivial ?_; (try simp only [Act.put]))
      (refine wpAnyH_ready (rs := [2]) (by kernel_rfl) (by simp) ?_; refine AllReadyH.cons rfl (fun K hK => ?_) AllReadyH.nil; go_simp)
      (go_at_call 33; (with_reducible refine (begin_any _).mono ?_); rintro e w2 ⟨u2, rfl, hown, hb⟩; have Hb2 := hid (show Below wz.heap.size wz w2 by first | exact hb | exact first_below hb); have hu2 := hown.bs; have hh2 := hh.below Hb2.out; clear hown hb)
      (refine hK.out _ _ trivial (fun _ => ?_); clear hK K; (try simp only [Act.put, List.setIfInBounds_toArray, List.set_cons_zero, List.set_cons_succ]))
      (refine wpAnyH_ready (rs := [3]) (by kernel_rfl) (by simp) ?_; refine AllReadyH.cons rfl (fun K hK => ?_) AllReadyH.nil; go_simp)
      (go_at_call 32; (with_reducible refine (HEQ _ u2 (by first | exact hu2 | exact hu2.drew) (by first | exact hh2 | exact hh2.drew)).mono ?_); rintro e w3 ⟨rfl, q, rfl⟩)
      (refine hK.out _ _ trivial (fun _ => ?_); clear hK K; (try simp only [Act.put, List.setIfInBounds_toArray, List.set_cons_zero, List.set_cons_succ]))
      (refine wpAnyH_ready (rs := [4]) (by kernel_rfl) (by simp) ?_; refine AllReadyH.cons rfl (fun K hK => ?_) AllReadyH.nil; go_simp)
      (refine hK.out _ _ trivial (fun _ => ?_); clear hK K; (try simp only [Act.put, List.setIfInBounds_toArray, List.set_cons_zero, List.set_cons_succ]))
      (refine wpAnyH_ready (rs := [5]) (by kernel_rfl) (by simp) ?_; refine AllReadyH.cons rfl (fun K hK => ?_) AllReadyH.nil; go_simp)
      (refine hK.out _ _ trivial (fun _ => ?_); clear hK K; (try simp only [Act.put, List.setIfInBounds_toArray, List.set_cons_zero, List.set_cons_succ]))
      (refine wpAnyH_ready (rs := [6]) (by kernel_rfl) (by simp) ?_; refine AllReadyH.cons rfl (fun K hK => ?_) AllReadyH.nil; go_simp)
      (refine hK.out _ _ trivial (fun _ => ?_); clear hK K; (try simp only [Act.put, List.setIfInBounds_toArray, List.set_cons_zero, List.set_cons_succ]))
      (refine wpAnyH_ready (rs := [7]) (by kernel_rfl) (by simp) ?_; refine AllReadyH.cons rfl (fun K hK => ?_) AllReadyH.nil; go_simp)
      (refine hK.out _ _ trivial (fun _ => ?_); clear hK K; (try simp only [Act.put, List.setIfInBounds_toArray, List.set_cons_zero, List.set_cons_succ]))
      (refine wpAnyH_ready (rs := [8]) (by kernel_rfl) (by simp) ?_; refine AllReadyH.cons rfl (fun K hK => ?_) AllReadyH.nil; go_simp)
      (refine hK.out _ _ trivial (fun _ => ?_); clear hK K; (try simp only [Act.put, List.setIfInBounds_toArray, List.set_cons_zero, List.set_cons_succ]))
      (refine wpAnyH_ready (rs := [9]) (by kernel_rfl) (by simp) ?_; refine AllReadyH.cons rfl (fun K hK => ?_) AllReadyH.nil; go_simp)
      (refine hK.out _ _ trivial (fun _ => ?_); clear hK K; (try simp only [Act.put, List.setIfInBounds_toArray, List.set_cons_zero, List.set_cons_succ]))
      (refine wpAnyH_ready (rs := [10]) (by kernel_rfl) (by simp) ?_; refine AllReadyH.cons rfl (fun K hK => ?_) AllReadyH.nil; go_simp)
      (refine hK.out _ _ trivial (fun _ => ?_); clear hK K; (try simp only [Act.put, List.setIfInBounds_toArray, List.set_cons_zero, List.set_cons_succ]))
      (refine wpAnyH_ready (rs := [11]) (by kernel_rfl) (by simp) ?_; refine AllReadyH.cons rfl (fun K hK => ?_) AllReadyH.nil; go_simp)
      (refine hK.out _ _ trivial (fun _ => ?_); clear hK K; (try simp only [Act.put, List.setIfInBounds_toArray, List.set_cons_zero, List.set_cons_succ]))
      (refine wpAnyH_ready (rs := [12]) (by kernel_rfl) (by simp) ?_; refine AllReadyH.cons rfl (fun K hK => ?_) AllReadyH.nil; go_simp)
      (refine hK.out _ _ trivial (fun _ => ?_); clear hK K; (try simp only [Act.put, List.setIfInBounds_toArray, List.set_cons_zero, List.set_cons_succ]))
      (refine wpAnyH_ready (rs := [13]) (by kernel_rfl) (by simp) ?_; refine AllReadyH.cons rfl (fun K hK => ?_) AllReadyH.nil; go_simp)
      (refine hK.out _ _ trivial (fun _ => ?_); clear hK K; (try simp only [Act.put, List.setIfInBounds_toArray, List.set_cons_zero, List.set_cons_succ]))
      refine wpAnyH_done (by kernel_rfl) ?_ _
      all_goals
        go_wp2_with fail
        go_meet
        case rel => exact ⟨rfl, by first | exact below_drewN Hb2.out _ | exact below_drewN (below_drewN Hb2.out _) _ | exact below_drewN (Hb2.out.drew) _⟩
  case rest =>
  obtain ⟨rfl, hbx⟩ := hcut
  have HPx := hid (HP.out.keep hbx)
  have HWx := hid (HW.out.trans (hbx.mono HW.out.size))
  have HBx := hid (Hz.out.below hbx)
  have Hbx := hid hbx
  clear hbx Hh HP HW Hz C1 C2 C3
  generalize wc = wx at *
  go_step
  cases bad with
  | true =>
    have HC2 := hid (HC.out.trans (if_pos rfl))
    go_wp2_with fail
    go_ret2
    exact HearPost.refused HC2.out (by decide) H.out HWx.out
  | false =>
  have hu1 : IntKind.u32.wrap (ti : Int) = (ti : Int) := IntWalk.u32_in _ (by have := Hlt.out; omega)
  have c6 : wx.cell? ⟨g, 6, none⟩ = some (.int .u32 (ip : Int)) := by
    obtain ⟨vr, gM, f, h⟩ := HPx.out
    exact h.tab.cell 6
  by_cases hti : ti = ip
  case neg =>
    have HC2 := hid (show hearCode ip ⟨⟨a0, a1, a2, a3, a4, a5⟩, ⟨b0, b1, b2, b3, b4, b5⟩, 2054, body⟩ = 18 by rw [HC.out, if_neg (by simp), if_pos hti])
    have hnb : ((ti : Int) != (ip : Int)) = true := by simp; omega
    clear hti
    go_wp2_with fail
    go_ret2
    exact HearPost.refused HC2.out (by decide) H.out HWx.out
  have HC2 := hid (show hearCode ip ⟨⟨a0, a1, a2, a3, a4, a5⟩, ⟨b0, b1, b2, b3, b4, b5⟩, 2054, body⟩ = 0 by rw [HC.out, if_neg (by simp), if_neg (by simpa using hti)])
  have hnb : ((ti : Int) != (ip : Int)) = false := by simp; omega
  have hu2 : IntKind.u32.wrap (si : Int) = (si : Int) := IntWalk.u32_in _ (by have := Hlt.out; omega)
  clear hti
  have s2 := cut8 (some ⟨gb, off, none⟩) n cap 8 14 8 6 rfl rfl (by have := Hcap.out; have := Hlen.out; omega)
  rw [cutA_at (by have := Hcap.out; have := Hlen.out; omega)] at s2
  have hap := run_arrayAt (P := Try.prog) Try.underlying23 (some ⟨gb, off + 8, none⟩) 6 (cap - 8) (Nat.le_refl 6)
  obtain ⟨d0, d1, d2, d3, d4, d5, hd⟩ : ∃ d0 d1 d2 d3 d4 d5, macAt body 8 = ⟨d0, d1, d2, d3, d4, d5⟩ := ⟨_, _, _, _, _, _, rfl⟩
  have hcell : ∀ j, (hj : 8 + j < body.length) → wx.cell? ⟨gb, off + 8 + j, none⟩ = some (.int .u8 ((body.getD (8 + j) 0).toNat : Int)) := fun j hj => by
    have := cell_below HWx.out (HCE.out (8 + j) hj)
    rw [Nat.add_assoc, this, List.getD_eq_getElem?_getD, List.getElem?_eq_getElem hj]
    rfl
  unfold macAt at hd
  simp only [Mac.mk.injEq] at hd
  obtain ⟨e0, e1, e2, e3, e4, e5⟩ := hd
  have hbl : body.length = n := Hn.out
  have x0 : wx.cell? ⟨gb, off + 8, none⟩ = some (.int .u8 (d0.toNat : Int)) := by have := hcell 0 (by have := Hlen.out; omega); rw [e0] at this; exact this
  have x1 : wx.cell? ⟨gb, off + 8 + 1, none⟩ = some (.int .u8 (d1.toNat : Int)) := by have := hcell 1 (by have := Hlen.out; omega); rw [e1] at this; exact this
  have x2 : wx.cell? ⟨gb, off + 8 + 2, none⟩ = some (.int .u8 (d2.toNat : Int)) := by have := hcell 2 (by have := Hlen.out; omega); rw [e2] at this; exact this
  have x3 : wx.cell? ⟨gb, off + 8 + 3, none⟩ = some (.int .u8 (d3.toNat : Int)) := by have := hcell 3 (by have := Hlen.out; omega); rw [e3] at this; exact this
  have x4 : wx.cell? ⟨gb, off + 8 + 4, none⟩ = some (.int .u8 (d4.toNat : Int)) := by have := hcell 4 (by have := Hlen.out; omega); rw [e4] at this; exact this
  have x5 : wx.cell? ⟨gb, off + 8 + 5, none⟩ = some (.int .u8 (d5.toNat : Int)) := by have := hcell 5 (by have := Hlen.out; omega); rw [e5] at this; exact this
  have Hmac := hid (show macAt body 8 = ⟨d0, d1, d2, d3, d4, d5⟩ by unfold macAt; rw [e0, e1, e2, e3, e4, e5])
  clear hcell e0 e1 e2 e3 e4 e5 hbl
  have HL := fun wy F (h : PeersInv wy base g mac ip l m F) => learn_any base g mac ip l m F si (by have := Hlt.out; omega) ⟨d0, d1, d2, d3, d4, d5⟩ wy h Hm.out
  dsimp only [Mac.val, Mac.cells] at HL
  have HPy := hid (HPx.out.keep (below_alloc wx (.cells #[.int .u8 (d0.toNat : Int), .int .u8 (d1.toNat : Int), .int .u8 (d2.toNat : Int), .int .u8 (d3.toNat : Int), .int .u8 (d4.toNat : Int), .int .u8 (d5.toNat : Int)] 23)))
  go_upto_region 15 with (go_at_call 15; (refine (HL _ F HPy.out).mono ?_); rintro e w4 ⟨⟨u4, rfl⟩, F', hp4, hf4, hF4⟩; have HP4 := hid hp4; have HF4 := hid hf4; have HFF := hid hF4; clear hp4 hf4 hF4)
  have hlx : ∀ k, F k → k < w.heap.size := fun k hk => (H.out.lt k hk).2
  have hb4 := HF4.out.blk (Blk.new wx 23 #[.int .u8 (d0.toNat : Int), .int .u8 (d1.toNat : Int), .int .u8 (d2.toNat : Int), .int .u8 (d3.toNat : Int), .int .u8 (d4.toNat : Int), .int .u8 (d5.toNat : Int)]) (fun q => by have := hlx _ q; have := HWx.out.size; omega)
  have Hfr := hid (show Frame F w w4 from (Below.frameF (HWx.out.trans ((below_alloc wx (.cells #[.int .u8 (d0.toNat : Int), .int .u8 (d1.toNat : Int), .int .u8 (d2.toNat : Int), .int .u8 (d3.toNat : Int), .int .u8 (d4.toNat : Int), .int .u8 (d5.toNat : Int)] 23)).mono HWx.out.size)) F).trans HF4.out (fun _ _ q => q))
  have HFn := hid (show ∀ k, F' k → F k ∨ w.heap.size ≤ k from fun k hk => (HFF.out k hk).imp id (fun q => by have := HWx.out.size; simp at q; omega))
  have k0 := hb4.cell 0
  have k1 := hb4.cell 1
  have k2 := hb4.cell 2
  have k3 := hb4.cell 3
  have k4 := hb4.cell 4
  have k5 := hb4.cell 5
  have HLs := hid (show hearList ip l ⟨⟨a0, a1, a2, a3, a4, a5⟩, ⟨b0, b1, b2, b3, b4, b5⟩, 2054, body⟩ = pLearn l si ⟨d0, d1, d2, d3, d4, d5⟩ by unfold hearList; rw [if_pos HC2.out, Hsi.out, Hmac.out])
  clear hb4 hlx c6 x0 x1 x2 x3 x4 x5
  by_cases hw2 : what = 2
  · have t2 : ((what : Int) == 2) = true := by simp; omega
    have HT := hid (show hearTell mac ip ⟨⟨a0, a1, a2, a3, a4, a5⟩, ⟨b0, b1, b2, b3, b4, b5⟩, 2054, body⟩ = [] by unfold hearTell; rw [Hwhat.out, if_neg (fun q => q.2 hw2)])
    clear hw2
    go_wp2_with fail
    go_ret2
    unfold HearPost
    rw [HT.out, HLs.out, HC2.out]
    exact ⟨_, rfl, OwnBs.nil _ _ _, F', HP4.out, Hfr.out, HFn.out, fun k hk => by simp [Value.ownBlock] at hk⟩
  · have t2 : ((what : Int) == 2) = false := by simp; omega
    have HT := hid (show hearTell mac ip ⟨⟨a0, a1, a2, a3, a4, a5⟩, ⟨b0, b1, b2, b3, b4, b5⟩, 2054, body⟩ = arpFrame ⟨d0, d1, d2, d3, d4, d5⟩ 2 mac ip ⟨d0, d1, d2, d3, d4, d5⟩ si by unfold hearTell; rw [Hwhat.out, if_pos ⟨HC2.out, hw2⟩, Hsi.out, Hmac.out])
    have HFR := frame_any base g mac ip Hip.out (pLearn l si ⟨d0, d1, d2, d3, d4, d5⟩) (m + 1) F' ⟨d0, d1, d2, d3, d4, d5⟩ 2 (by decide) ⟨d0, d1, d2, d3, d4, d5⟩ si Hlt.out.2.1 w4 HP4.out
    dsimp only [Mac.val, Mac.cells] at HFR
    have HFR := hid HFR
    clear hw2
    go_wp2_with (go_at_call 34; refine HFR.out.mono ?_; rintro e w5 ⟨v5, rfl, hown, hb⟩; have Hown := hid hown; have Hb5 := hid hb; clear hown hb)
    go_ret2
    unfold HearPost
    rw [HT.out, HLs.out, HC2.out]
    refine ⟨_, rfl, Hown.out.mono Hfr.out.size, F', HP4.out.keep Hb5.out, Hfr.out.trans (Below.frameF Hb5.out F) (fun _ _ q => q), HFn.out, fun k hk q => ?_⟩
    have h1 := (HP4.out.lt k q).2
    rcases Hown.out.2 with ⟨rfl, _⟩ | ⟨g2, c2, cur2, rfl, h2, _⟩
    · simp [Value.ownBlock] at hk
    · simp [Value.ownBlock] at hk
      omega
end Go.Proofs.Ytefpfjdfkecjkaa
