/- The document's Hear. -/
import Derived.Test.YtefpfjdfkecjkaaEthP
namespace Go.Proofs.Ytefpfjdfkecjkaa
open Go Go.RowKit
attribute [local go_sem ↓] Go.wp_at_zero Go.wp_at_succ
set_option maxRecDepth 100000

def RHearPost (base gX : Nat) (mac : Mac) (ip : Nat) (l : List Peer) (FX : Nat → Prop) (f : Frm) (w : World) (e : Ending) (w' : World) : Prop :=
  ∃ v', e = .returned (.tuple #[v', .int .i64 (hearCode ip f)]) ∧ OwnBs w' w.heap.size 5 v' (hearTell mac ip f) ∧ ∃ FX', RPInv w' base gX mac ip (hearList ip l f) FX' ∧ Frame FX w w' ∧ (∀ k, FX' k → FX k ∨ w.heap.size ≤ k) ∧ ∀ k, v'.ownBlock = some k → ¬ FX' k
theorem RHearPost.refused {base gX : Nat} {mac : Mac} {ip : Nat} {l : List Peer} {FX : Nat → Prop} {f : Frm} {w w' : World} {c : Int} (hc : hearCode ip f = c) (h0 : c ≠ 0) (h : RPInv w base gX mac ip l FX) (hb : Below w.heap.size w w') :
    RHearPost base gX mac ip l FX f w (.returned (.tuple #[.slice none 0 0, .int .i64 c])) w' := by
  unfold RHearPost hearTell hearList
  rw [hc, if_neg (fun q => h0 q.1), if_neg h0]
  exact ⟨_, rfl, OwnBs.nil _ _ _, FX, h.keep hb, Below.frameF hb FX, fun k hk => .inl hk, fun k hk => by simp [Value.ownBlock] at hk⟩
theorem keep6 {w w' : World} (hb : Below w.heap.size w w') {g : Nat} {x0 x1 x2 x3 x4 x5 : Value}
    (h : w.cell? ⟨g, 0, none⟩ = some x0 ∧ w.cell? ⟨g, 1, none⟩ = some x1 ∧ w.cell? ⟨g, 2, none⟩ = some x2 ∧ w.cell? ⟨g, 3, none⟩ = some x3 ∧ w.cell? ⟨g, 4, none⟩ = some x4 ∧ w.cell? ⟨g, 5, none⟩ = some x5) :
    w'.cell? ⟨g, 0, none⟩ = some x0 ∧ w'.cell? ⟨g, 1, none⟩ = some x1 ∧ w'.cell? ⟨g, 2, none⟩ = some x2 ∧ w'.cell? ⟨g, 3, none⟩ = some x3 ∧ w'.cell? ⟨g, 4, none⟩ = some x4 ∧ w'.cell? ⟨g, 5, none⟩ = some x5 := by
  obtain ⟨h0, h1, h2, h3, h4, h5⟩ := h
  exact ⟨cell_below hb h0, cell_below hb h1, cell_below hb h2, cell_below hb h3, cell_below hb h4, cell_below hb h5⟩
theorem blk6 {w : World} {g : Nat} {t : TypeId} {x0 x1 x2 x3 x4 x5 : Value} (h : Blk w g t [x0, x1, x2, x3, x4, x5]) :
    w.cell? ⟨g, 0, none⟩ = some x0 ∧ w.cell? ⟨g, 1, none⟩ = some x1 ∧ w.cell? ⟨g, 2, none⟩ = some x2 ∧ w.cell? ⟨g, 3, none⟩ = some x3 ∧ w.cell? ⟨g, 4, none⟩ = some x4 ∧ w.cell? ⟨g, 5, none⟩ = some x5 :=
  ⟨h.cell 0, h.cell 1, h.cell 2, h.cell 3, h.cell 4, h.cell 5⟩
theorem own_ge {w : World} {base size n g : Nat} {e : TypeId} {v : Value} {xs : List Value} (h : w.ownsRow base e size v n xs) (hg : v.ownBlock = some g) : base ≤ g := by
  rcases h.2 with ⟨rfl, _⟩ | ⟨g2, cap, cur, rfl, hb, _⟩
  · simp [Value.ownBlock] at hg
  · simp only [Value.ownBlock, Option.some.injEq] at hg
    omega
theorem macAt_drop (b : List UInt8) (k : Nat) : macAt (b.drop k) 0 = macAt b k := by
  simp [macAt, List.getD_eq_getElem?_getD, List.getElem?_drop]
theorem two_val (x y p q : Nat) (hx : x < 256) (hy : y < 256) (hp : x * 256 = p) (hq : x * 256 + y = q) : wrap64 (x : Int) = (x : Int) ∧ wrap64 (y : Int) = (y : Int) ∧ wrap64 (256 * (x : Int)) = (p : Int) ∧ wrap64 ((p : Int) + (y : Int)) = (q : Int) := by
  refine ⟨?_, ?_, ?_, ?_⟩ <;> unfold wrap64 <;> omega
set_option maxHeartbeats 4000000 in
theorem rhear_any (base gX : Nat) (mac : Mac) (ip : Nat) (hip : ip < 4294967296) (l : List Peer) (FX : Nat → Prop) (f : Frm) (A : Option Addr) (n cap : Nat) (w : World) (h : RPInv w base gX mac ip l FX) (hbase : base ≤ w.heap.size) (hB : Bs w (.slice A n cap) f.body) (hl : n ≤ 1000000) :
    Calls Try.prog 18 #[.pointer (some ⟨gX, 0, none⟩), f.val (.slice A n cap)] w (RHearPost base gX mac ip l FX f w) := by
  obtain ⟨⟨a0, a1, a2, a3, a4, a5⟩, ⟨b0, b1, b2, b3, b4, b5⟩, kind, body⟩ := f
  have hn : body.length = n := by obtain ⟨_, _, _, hv, _⟩ := hB; injection hv with _ h2; exact h2.symm
  have H := hid h
  have HB := hid hB
  have Hn := hid hn
  have Hip := hid hip
  dsimp only [Frm.val, Frm.cells, Mac.cells, List.cons_append, List.nil_append]
  by_cases hk : kind = 2054
  case neg =>
    have HC := hid (show hearCode ip ⟨⟨a0, a1, a2, a3, a4, a5⟩, ⟨b0, b1, b2, b3, b4, b5⟩, kind, body⟩ = 3 by unfold hearCode; rw [if_pos hk])
    have hkb : (kind != 2054) = true := by simpa using hk
    clear h hB hn hip hk
    go_enter Try.func18, Try.ntmps18
    go_wp2_with fail
    go_ret2
    exact RHearPost.refused HC.out (by decide) H.out (below_alloc w _)
  subst hk
  by_cases hlen : n < 28
  · have HC := hid (show hearCode ip ⟨⟨a0, a1, a2, a3, a4, a5⟩, ⟨b0, b1, b2, b3, b4, b5⟩, 2054, body⟩ = 11 by unfold hearCode; rw [if_neg (by simp), if_pos (by rw [hn]; exact hlen)])
    have t1 : (n : Int) < 28 := by omega
    clear h hB hn hip
    go_enter Try.func18, Try.ntmps18
    go_wp2_with fail
    go_ret2
    exact RHearPost.refused HC.out (by decide) H.out (below_alloc w _)
  have t1 : ¬ (n : Int) < 28 := by omega
  obtain ⟨_, hcap1, hcap2, k3⟩ := Bs.open hB
  obtain ⟨gb, off, rfl, hc⟩ := k3.resolve_left (by omega)
  have HCE := hid hc
  have h6 : 6 < body.length := by omega
  have h7 : 7 < body.length := by omega
  have c6 := cell_below (below_alloc w (.cells #[.int .u8 (a0.toNat : Int), .int .u8 (a1.toNat : Int), .int .u8 (a2.toNat : Int), .int .u8 (a3.toNat : Int), .int .u8 (a4.toNat : Int), .int .u8 (a5.toNat : Int), .int .u8 (b0.toNat : Int), .int .u8 (b1.toNat : Int), .int .u8 (b2.toNat : Int), .int .u8 (b3.toNat : Int), .int .u8 (b4.toNat : Int), .int .u8 (b5.toNat : Int), .int .i64 2054, .slice (some ⟨gb, off, none⟩) n cap] 30)) (hc 6 h6)
  have c7 := cell_below (below_alloc w (.cells #[.int .u8 (a0.toNat : Int), .int .u8 (a1.toNat : Int), .int .u8 (a2.toNat : Int), .int .u8 (a3.toNat : Int), .int .u8 (a4.toNat : Int), .int .u8 (a5.toNat : Int), .int .u8 (b0.toNat : Int), .int .u8 (b1.toNat : Int), .int .u8 (b2.toNat : Int), .int .u8 (b3.toNat : Int), .int .u8 (b4.toNat : Int), .int .u8 (b5.toNat : Int), .int .i64 2054, .slice (some ⟨gb, off, none⟩) n cap] 30)) (hc 7 h7)
  have hwhat : beVal ((body.drop 6).take 2) = body[6].toNat * 256 + body[7].toNat := by
    have e : (body.drop 6).take 2 = [body[6], body[7]] := by
      rw [List.drop_eq_getElem_cons h6, List.drop_eq_getElem_cons h7]; rfl
    rw [e]
    simp [beVal]
  have hcut : ∀ (p q : Nat), p + q ≤ 28 → okSize (q : Int) = true → cutOf body p q = ((body.drop p).take q, 0) := fun p q hpq hq => by
    unfold cutOf
    rw [if_pos hq, if_neg (by omega)]
    simp
  obtain ⟨x6, hx6⟩ : ∃ x, body[6] = x := ⟨_, rfl⟩
  obtain ⟨x7, hx7⟩ : ∃ x, body[7] = x := ⟨_, rfl⟩
  rw [hx6] at c6
  rw [hx7] at c7
  unfold u8v at c6 c7
  rw [hx6, hx7] at hwhat
  have hb6 := x6.toNat_lt
  have hb7 := x7.toNat_lt
  obtain ⟨what, hwe⟩ : ∃ k, x6.toNat * 256 + x7.toNat = k := ⟨_, rfl⟩
  rw [hwe] at hwhat
  obtain ⟨p6, hp6⟩ : ∃ k, x6.toNat * 256 = k := ⟨_, rfl⟩
  obtain ⟨r6, r7, m1, m2⟩ := two_val x6.toNat x7.toNat p6 what hb6 hb7 hp6 hwe
  obtain ⟨si, hsi⟩ : ∃ k, beVal ((body.drop 14).take 4) = k := ⟨_, rfl⟩
  obtain ⟨ti, hti⟩ : ∃ k, beVal ((body.drop 24).take 4) = k := ⟨_, rfl⟩
  have lt2 : si < 4294967296 := by
    have := beVal_lt ((body.drop 14).take 4)
    rw [hsi] at this
    rw [show ((body.drop 14).take 4).length = 4 by simp; omega] at this
    exact this
  have lt3 : ti < 4294967296 := by
    have := beVal_lt ((body.drop 24).take 4)
    rw [hti] at this
    rw [show ((body.drop 24).take 4).length = 4 by simp; omega] at this
    exact this
  obtain ⟨bad, hbad⟩ : ∃ b, decide (body.take 6 ≠ arpHead ∨ what ≠ 1 ∧ what ≠ 2) = b := ⟨_, rfl⟩
  have HC := hid (show hearCode ip ⟨⟨a0, a1, a2, a3, a4, a5⟩, ⟨b0, b1, b2, b3, b4, b5⟩, 2054, body⟩ = if bad = true then 15 else if ti ≠ ip then 18 else 0 by
    unfold hearCode
    rw [if_neg (by simp), if_neg (by rw [hn]; exact hlen)]
    simp only [hwhat, hti]
    rw [← hbad]
    simp only [decide_eq_true_eq])
  have C2 := hid (show cutOf body 14 4 = ((body.drop 14).take 4, 0) from hcut 14 4 (by omega) rfl)
  have C3 := hid (show cutOf body 24 4 = ((body.drop 24).take 4, 0) from hcut 24 4 (by omega) rfl)
  have Hwhat := hid hwhat
  have Hsi := hid hsi
  have Hti := hid hti
  have Hlt := hid (And.intro lt2 lt3)
  have Hbad := hid hbad
  have Hcap := hid (And.intro hcap1 hcap2)
  have s1 := cut8_to (some ⟨gb, off, none⟩) n cap 6 6 rfl (by omega)
  have Hhead := hid (HB.out.cut (l := 0) (k := 6) (by omega))
  rw [List.drop_zero, Nat.sub_zero] at Hhead
  have Hlen := hid (show 28 ≤ n by omega)
  have g6 : (6 : Int) < (n : Int) := by omega
  have g7 : (7 : Int) < (n : Int) := by omega
  have e6 : w.heap.size = w.heap.size := rfl
  clear h hB hip hcut hwhat hsi hti lt2 lt3 hbad k3 hc hcap1 hcap2 hn hlen hx6 hx7 h6 h7 hwe hp6 hb6 hb7 e6
  go_enter Try.func18, Try.ntmps18
  go_upto_region 6 with fail
  go_quiet (fail)
  have Hz := hid (HB.out.below (below_drewN (below_alloc w (.cells #[.int .u8 (a0.toNat : Int), .int .u8 (a1.toNat : Int), .int .u8 (a2.toNat : Int), .int .u8 (a3.toNat : Int), .int .u8 (a4.toNat : Int), .int .u8 (a5.toNat : Int), .int .u8 (b0.toNat : Int), .int .u8 (b1.toNat : Int), .int .u8 (b2.toNat : Int), .int .u8 (b3.toNat : Int), .int .u8 (b4.toNat : Int), .int .u8 (b5.toNat : Int), .int .i64 2054, .slice (some ⟨gb, off, none⟩) n cap] 30)) nq))
  have Hh := hid (Hhead.out.below (below_drewN (below_alloc w (.cells #[.int .u8 (a0.toNat : Int), .int .u8 (a1.toNat : Int), .int .u8 (a2.toNat : Int), .int .u8 (a3.toNat : Int), .int .u8 (a4.toNat : Int), .int .u8 (a5.toNat : Int), .int .u8 (b0.toNat : Int), .int .u8 (b1.toNat : Int), .int .u8 (b2.toNat : Int), .int .u8 (b3.toNat : Int), .int .u8 (b4.toNat : Int), .int .u8 (b5.toNat : Int), .int .i64 2054, .slice (some ⟨gb, off, none⟩) n cap] 30)) nq))
  have HP := hid (H.out.keep (below_drewN (below_alloc w (.cells #[.int .u8 (a0.toNat : Int), .int .u8 (a1.toNat : Int), .int .u8 (a2.toNat : Int), .int .u8 (a3.toNat : Int), .int .u8 (a4.toNat : Int), .int .u8 (a5.toNat : Int), .int .u8 (b0.toNat : Int), .int .u8 (b1.toNat : Int), .int .u8 (b2.toNat : Int), .int .u8 (b3.toNat : Int), .int .u8 (b4.toNat : Int), .int .u8 (b5.toNat : Int), .int .i64 2054, .slice (some ⟨gb, off, none⟩) n cap] 30)) nq))
  have HW := hid (below_drewN (below_alloc w (.cells #[.int .u8 (a0.toNat : Int), .int .u8 (a1.toNat : Int), .int .u8 (a2.toNat : Int), .int .u8 (a3.toNat : Int), .int .u8 (a4.toNat : Int), .int .u8 (a5.toNat : Int), .int .u8 (b0.toNat : Int), .int .u8 (b1.toNat : Int), .int .u8 (b2.toNat : Int), .int .u8 (b3.toNat : Int), .int .u8 (b4.toNat : Int), .int .u8 (b5.toNat : Int), .int .i64 2054, .slice (some ⟨gb, off, none⟩) n cap] 30)) nq)
  clear Hhead c6 c7
  generalize (w.alloc (.cells #[.int .u8 (a0.toNat : Int), .int .u8 (a1.toNat : Int), .int .u8 (a2.toNat : Int), .int .u8 (a3.toNat : Int), .int .u8 (a4.toNat : Int), .int .u8 (a5.toNat : Int), .int .u8 (b0.toNat : Int), .int .u8 (b1.toNat : Int), .int .u8 (b2.toNat : Int), .int .u8 (b3.toNat : Int), .int .u8 (b4.toNat : Int), .int .u8 (b5.toNat : Int), .int .i64 2054, .slice (some ⟨gb, off, none⟩) n cap] 30)).drewN nq = wz at *
  go_wp2_with fail
  clear r6 r7 m1 m2
  have S1 := run_str Try.underlying22 Try.underlying5 Try.underlying9 Hh.out
  have S4 : (convert 22 9 (.slice (some ⟨wz.heap.size, 0, none⟩) 6 6)).run Try.prog (wz.alloc (.cells #[.int .u8 0, .int .u8 1, .int .u8 8, .int .u8 0, .int .u8 6, .int .u8 4] 5)).drew = .ok (.string (mkStr arpHead)) (wz.alloc (.cells #[.int .u8 0, .int .u8 1, .int .u8 8, .int .u8 0, .int .u8 6, .int .u8 4] 5)).drew := run_str Try.underlying22 Try.underlying5 Try.underlying9 (Bs.drew (bs_litm #[.int .u8 0, .int .u8 1, .int .u8 8, .int .u8 0, .int .u8 6, .int .u8 4] arpHead 6 _ rfl rfl (by decide) rfl))
  clear S1
  go_cut [46] from 33 to 47 (fun s wx => s = .bool bad ∧ Below wz.heap.size wz wx)
  case first =>
    by_cases heq : body.take 6 = arpHead
    · have ne1 : mkStr (body.take 6) = mkStr arpHead := by rw [heq]
      by_cases hw1 : what = 1
      · have t2 : ((what : Int) != 1) = false := by simp; omega
        have hb0 : bad = false := by rw [← Hbad.out]; exact decide_eq_false (fun q => by rcases q with q | q; exact q heq; omega)
        subst hb0
        clear heq hw1
        (refine wp_region_held_drew (S := fun wy => Below wz.heap.size wz wy) (by kernel_rfl) (below_drew wz) (fun _ => ?_))
        (refine wpAnyH_take (i := 0) (v := .slice (some ⟨gb, off, none⟩) n cap) rfl (by kernel_rfl) (by kernel_rfl) (by kernel_rfl) (fun _ _ _ h => h) (Or.inl ⟨by rfl, by intro wq hSw; go_simp⟩) (below_drew wz) ?_; (try simp only [Act.put, List.setIfInBounds_toArray]))
        (refine wpAnyH_take (i := 1) (v := .slice (cutA (some ⟨gb, off, none⟩) cap 0 1) 6 cap) rfl (by kernel_rfl) (by kernel_rfl) (by kernel_rfl) (fun _ _ _ h => h) (Or.inl ⟨by rfl, by intro wq hSw; go_simp⟩) (below_drew wz) ?_; (try simp only [Act.put]))
        (refine wpAnyH_take (i := 2) (v := .string (mkStr (body.take 6))) rfl (by kernel_rfl) (by kernel_rfl) (by kernel_rfl) (fun _ _ _ h => h) (Or.inl ⟨by rfl, by intro wq hSw; have S9 := run_str Try.underlying22 Try.underlying5 Try.underlying9 (Hh.out.below hSw); go_simp⟩) (below_drew wz) ?_; (try simp only [Act.put]))
        (refine wpAnyH_ready (rs := [3]) (by kernel_rfl) (by simp) ?_; refine AllReadyH.cons rfl (fun K hK => ?_) AllReadyH.nil; go_simp)
        (refine hK.out _ _ (by first | exact (below_alloc wz _).drew | exact below_drew wz) (fun _ => ?_); clear hK K; (try simp only [Act.put, List.setIfInBounds_toArray, List.set_cons_zero, List.set_cons_succ]))
        (refine wpAnyH_ready (rs := [4]) (by kernel_rfl) (by simp) ?_; refine AllReadyH.cons rfl (fun K hK => ?_) AllReadyH.nil; go_simp)
        (refine hK.out _ _ (by first | exact (below_alloc wz _).drew | exact below_drew wz) (fun _ => ?_); clear hK K; (try simp only [Act.put, List.setIfInBounds_toArray, List.set_cons_zero, List.set_cons_succ]))
        (refine wpAnyH_ready (rs := [5]) (by kernel_rfl) (by simp) ?_; refine AllReadyH.cons rfl (fun K hK => ?_) AllReadyH.nil; go_simp)
        (refine hK.out _ _ (by first | exact (below_alloc wz _).drew | exact below_drew wz) (fun _ => ?_); clear hK K; (try simp only [Act.put, List.setIfInBounds_toArray, List.set_cons_zero, List.set_cons_succ]))
        (refine wpAnyH_ready (rs := [6]) (by kernel_rfl) (by simp) ?_; refine AllReadyH.cons rfl (fun K hK => ?_) AllReadyH.nil; go_simp)
        (refine hK.out _ _ (by first | exact (below_alloc wz _).drew | exact below_drew wz) (fun _ => ?_); clear hK K; (try simp only [Act.put, List.setIfInBounds_toArray, List.set_cons_zero, List.set_cons_succ]))
        (refine wpAnyH_ready (rs := [7]) (by kernel_rfl) (by simp) ?_; refine AllReadyH.cons rfl (fun K hK => ?_) AllReadyH.nil; go_simp)
        (refine hK.out _ _ (by first | exact (below_alloc wz _).drew | exact below_drew wz) (fun _ => ?_); clear hK K; (try simp only [Act.put, List.setIfInBounds_toArray, List.set_cons_zero, List.set_cons_succ]))
        (refine wpAnyH_ready (rs := [8]) (by kernel_rfl) (by simp) ?_; refine AllReadyH.cons rfl (fun K hK => ?_) AllReadyH.nil; go_simp)
        (refine hK.out _ _ (by first | exact (below_alloc wz _).drew | exact below_drew wz) (fun _ => ?_); clear hK K; (try simp only [Act.put, List.setIfInBounds_toArray, List.set_cons_zero, List.set_cons_succ]))
        (refine wpAnyH_ready (rs := [9]) (by kernel_rfl) (by simp) ?_; refine AllReadyH.cons rfl (fun K hK => ?_) AllReadyH.nil; go_simp)
        (refine hK.out _ _ (by first | exact (below_alloc wz _).drew | exact below_drew wz) (fun _ => ?_); clear hK K; (try simp only [Act.put, List.setIfInBounds_toArray, List.set_cons_zero, List.set_cons_succ]))
        (refine wpAnyH_ready (rs := [10]) (by kernel_rfl) (by simp) ?_; refine AllReadyH.cons rfl (fun K hK => ?_) AllReadyH.nil; go_simp)
        (refine hK.out _ _ (by first | exact (below_alloc wz _).drew | exact below_drew wz) (fun _ => ?_); clear hK K; (try simp only [Act.put, List.setIfInBounds_toArray, List.set_cons_zero, List.set_cons_succ]))
        (refine wpAnyH_ready (rs := [11]) (by kernel_rfl) (by simp) ?_; refine AllReadyH.cons rfl (fun K hK => ?_) AllReadyH.nil; go_simp)
        (refine hK.out _ _ (by first | exact (below_alloc wz _).drew | exact below_drew wz) (fun _ => ?_); clear hK K; (try simp only [Act.put, List.setIfInBounds_toArray, List.set_cons_zero, List.set_cons_succ]))
        (refine wpAnyH_ready (rs := [12]) (by kernel_rfl) (by simp) ?_; refine AllReadyH.cons rfl (fun K hK => ?_) AllReadyH.nil; go_simp)
        (refine hK.out _ _ (by first | exact (below_alloc wz _).drew | exact below_drew wz) (fun _ => ?_); clear hK K; (try simp only [Act.put, List.setIfInBounds_toArray, List.set_cons_zero, List.set_cons_succ]))
        (refine wpAnyH_ready (rs := [13]) (by kernel_rfl) (by simp) ?_; refine AllReadyH.cons rfl (fun K hK => ?_) AllReadyH.nil; go_simp)
        (refine hK.out _ _ (by first | exact (below_alloc wz _).drew | exact below_drew wz) (fun _ => ?_); clear hK K; (try simp only [Act.put, List.setIfInBounds_toArray, List.set_cons_zero, List.set_cons_succ]))
        refine wpAnyH_done (by kernel_rfl) ?_ _
        all_goals
          go_wp2_with fail
          go_meet
          case rel => exact ⟨rfl, (below_alloc wz _).drew⟩
      by_cases hw2 : what = 2
      · have t2 : ((what : Int) != 1) = true := by simp; omega
        have t3 : ((what : Int) != 2) = false := by simp; omega
        have hb0 : bad = false := by rw [← Hbad.out]; exact decide_eq_false (fun q => by rcases q with q | q; exact q heq; omega)
        subst hb0
        clear heq hw1 hw2
        (refine wp_region_held_drew (S := fun wy => Below wz.heap.size wz wy) (by kernel_rfl) (below_drew wz) (fun _ => ?_))
        (refine wpAnyH_take (i := 0) (v := .slice (some ⟨gb, off, none⟩) n cap) rfl (by kernel_rfl) (by kernel_rfl) (by kernel_rfl) (fun _ _ _ h => h) (Or.inl ⟨by rfl, by intro wq hSw; go_simp⟩) (below_drew wz) ?_; (try simp only [Act.put, List.setIfInBounds_toArray]))
        (refine wpAnyH_take (i := 1) (v := .slice (cutA (some ⟨gb, off, none⟩) cap 0 1) 6 cap) rfl (by kernel_rfl) (by kernel_rfl) (by kernel_rfl) (fun _ _ _ h => h) (Or.inl ⟨by rfl, by intro wq hSw; go_simp⟩) (below_drew wz) ?_; (try simp only [Act.put]))
        (refine wpAnyH_take (i := 2) (v := .string (mkStr (body.take 6))) rfl (by kernel_rfl) (by kernel_rfl) (by kernel_rfl) (fun _ _ _ h => h) (Or.inl ⟨by rfl, by intro wq hSw; have S9 := run_str Try.underlying22 Try.underlying5 Try.underlying9 (Hh.out.below hSw); go_simp⟩) (below_drew wz) ?_; (try simp only [Act.put]))
        (refine wpAnyH_ready (rs := [3]) (by kernel_rfl) (by simp) ?_; refine AllReadyH.cons rfl (fun K hK => ?_) AllReadyH.nil; go_simp)
        (refine hK.out _ _ (by first | exact (below_alloc wz _).drew | exact below_drew wz) (fun _ => ?_); clear hK K; (try simp only [Act.put, List.setIfInBounds_toArray, List.set_cons_zero, List.set_cons_succ]))
        (refine wpAnyH_ready (rs := [4]) (by kernel_rfl) (by simp) ?_; refine AllReadyH.cons rfl (fun K hK => ?_) AllReadyH.nil; go_simp)
        (refine hK.out _ _ (by first | exact (below_alloc wz _).drew | exact below_drew wz) (fun _ => ?_); clear hK K; (try simp only [Act.put, List.setIfInBounds_toArray, List.set_cons_zero, List.set_cons_succ]))
        (refine wpAnyH_ready (rs := [5]) (by kernel_rfl) (by simp) ?_; refine AllReadyH.cons rfl (fun K hK => ?_) AllReadyH.nil; go_simp)
        (refine hK.out _ _ (by first | exact (below_alloc wz _).drew | exact below_drew wz) (fun _ => ?_); clear hK K; (try simp only [Act.put, List.setIfInBounds_toArray, List.set_cons_zero, List.set_cons_succ]))
        (refine wpAnyH_ready (rs := [6]) (by kernel_rfl) (by simp) ?_; refine AllReadyH.cons rfl (fun K hK => ?_) AllReadyH.nil; go_simp)
        (refine hK.out _ _ (by first | exact (below_alloc wz _).drew | exact below_drew wz) (fun _ => ?_); clear hK K; (try simp only [Act.put, List.setIfInBounds_toArray, List.set_cons_zero, List.set_cons_succ]))
        (refine wpAnyH_ready (rs := [7]) (by kernel_rfl) (by simp) ?_; refine AllReadyH.cons rfl (fun K hK => ?_) AllReadyH.nil; go_simp)
        (refine hK.out _ _ (by first | exact (below_alloc wz _).drew | exact below_drew wz) (fun _ => ?_); clear hK K; (try simp only [Act.put, List.setIfInBounds_toArray, List.set_cons_zero, List.set_cons_succ]))
        (refine wpAnyH_ready (rs := [8]) (by kernel_rfl) (by simp) ?_; refine AllReadyH.cons rfl (fun K hK => ?_) AllReadyH.nil; go_simp)
        (refine hK.out _ _ (by first | exact (below_alloc wz _).drew | exact below_drew wz) (fun _ => ?_); clear hK K; (try simp only [Act.put, List.setIfInBounds_toArray, List.set_cons_zero, List.set_cons_succ]))
        (refine wpAnyH_ready (rs := [9]) (by kernel_rfl) (by simp) ?_; refine AllReadyH.cons rfl (fun K hK => ?_) AllReadyH.nil; go_simp)
        (refine hK.out _ _ (by first | exact (below_alloc wz _).drew | exact below_drew wz) (fun _ => ?_); clear hK K; (try simp only [Act.put, List.setIfInBounds_toArray, List.set_cons_zero, List.set_cons_succ]))
        (refine wpAnyH_ready (rs := [10]) (by kernel_rfl) (by simp) ?_; refine AllReadyH.cons rfl (fun K hK => ?_) AllReadyH.nil; go_simp)
        (refine hK.out _ _ (by first | exact (below_alloc wz _).drew | exact below_drew wz) (fun _ => ?_); clear hK K; (try simp only [Act.put, List.setIfInBounds_toArray, List.set_cons_zero, List.set_cons_succ]))
        (refine wpAnyH_ready (rs := [11]) (by kernel_rfl) (by simp) ?_; refine AllReadyH.cons rfl (fun K hK => ?_) AllReadyH.nil; go_simp)
        (refine hK.out _ _ (by first | exact (below_alloc wz _).drew | exact below_drew wz) (fun _ => ?_); clear hK K; (try simp only [Act.put, List.setIfInBounds_toArray, List.set_cons_zero, List.set_cons_succ]))
        (refine wpAnyH_ready (rs := [12]) (by kernel_rfl) (by simp) ?_; refine AllReadyH.cons rfl (fun K hK => ?_) AllReadyH.nil; go_simp)
        (refine hK.out _ _ (by first | exact (below_alloc wz _).drew | exact below_drew wz) (fun _ => ?_); clear hK K; (try simp only [Act.put, List.setIfInBounds_toArray, List.set_cons_zero, List.set_cons_succ]))
        (refine wpAnyH_ready (rs := [13]) (by kernel_rfl) (by simp) ?_; refine AllReadyH.cons rfl (fun K hK => ?_) AllReadyH.nil; go_simp)
        (refine hK.out _ _ (by first | exact (below_alloc wz _).drew | exact below_drew wz) (fun _ => ?_); clear hK K; (try simp only [Act.put, List.setIfInBounds_toArray, List.set_cons_zero, List.set_cons_succ]))
        refine wpAnyH_done (by kernel_rfl) ?_ _
        all_goals
          go_wp2_with fail
          go_meet
          case rel => exact ⟨rfl, (below_alloc wz _).drew⟩
      · have t2 : ((what : Int) != 1) = true := by simp; omega
        have t3 : ((what : Int) != 2) = true := by simp; omega
        have hb0 : bad = true := by rw [← Hbad.out]; exact decide_eq_true (.inr ⟨hw1, hw2⟩)
        subst hb0
        clear heq hw1 hw2
        (refine wp_region_held_drew (S := fun wy => Below wz.heap.size wz wy) (by kernel_rfl) (below_drew wz) (fun _ => ?_))
        (refine wpAnyH_take (i := 0) (v := .slice (some ⟨gb, off, none⟩) n cap) rfl (by kernel_rfl) (by kernel_rfl) (by kernel_rfl) (fun _ _ _ h => h) (Or.inl ⟨by rfl, by intro wq hSw; go_simp⟩) (below_drew wz) ?_; (try simp only [Act.put, List.setIfInBounds_toArray]))
        (refine wpAnyH_take (i := 1) (v := .slice (cutA (some ⟨gb, off, none⟩) cap 0 1) 6 cap) rfl (by kernel_rfl) (by kernel_rfl) (by kernel_rfl) (fun _ _ _ h => h) (Or.inl ⟨by rfl, by intro wq hSw; go_simp⟩) (below_drew wz) ?_; (try simp only [Act.put]))
        (refine wpAnyH_take (i := 2) (v := .string (mkStr (body.take 6))) rfl (by kernel_rfl) (by kernel_rfl) (by kernel_rfl) (fun _ _ _ h => h) (Or.inl ⟨by rfl, by intro wq hSw; have S9 := run_str Try.underlying22 Try.underlying5 Try.underlying9 (Hh.out.below hSw); go_simp⟩) (below_drew wz) ?_; (try simp only [Act.put]))
        (refine wpAnyH_ready (rs := [3]) (by kernel_rfl) (by simp) ?_; refine AllReadyH.cons rfl (fun K hK => ?_) AllReadyH.nil; go_simp)
        (refine hK.out _ _ (by first | exact (below_alloc wz _).drew | exact below_drew wz) (fun _ => ?_); clear hK K; (try simp only [Act.put, List.setIfInBounds_toArray, List.set_cons_zero, List.set_cons_succ]))
        (refine wpAnyH_ready (rs := [4]) (by kernel_rfl) (by simp) ?_; refine AllReadyH.cons rfl (fun K hK => ?_) AllReadyH.nil; go_simp)
        (refine hK.out _ _ (by first | exact (below_alloc wz _).drew | exact below_drew wz) (fun _ => ?_); clear hK K; (try simp only [Act.put, List.setIfInBounds_toArray, List.set_cons_zero, List.set_cons_succ]))
        (refine wpAnyH_ready (rs := [5]) (by kernel_rfl) (by simp) ?_; refine AllReadyH.cons rfl (fun K hK => ?_) AllReadyH.nil; go_simp)
        (refine hK.out _ _ (by first | exact (below_alloc wz _).drew | exact below_drew wz) (fun _ => ?_); clear hK K; (try simp only [Act.put, List.setIfInBounds_toArray, List.set_cons_zero, List.set_cons_succ]))
        (refine wpAnyH_ready (rs := [6]) (by kernel_rfl) (by simp) ?_; refine AllReadyH.cons rfl (fun K hK => ?_) AllReadyH.nil; go_simp)
        (refine hK.out _ _ (by first | exact (below_alloc wz _).drew | exact below_drew wz) (fun _ => ?_); clear hK K; (try simp only [Act.put, List.setIfInBounds_toArray, List.set_cons_zero, List.set_cons_succ]))
        (refine wpAnyH_ready (rs := [7]) (by kernel_rfl) (by simp) ?_; refine AllReadyH.cons rfl (fun K hK => ?_) AllReadyH.nil; go_simp)
        (refine hK.out _ _ (by first | exact (below_alloc wz _).drew | exact below_drew wz) (fun _ => ?_); clear hK K; (try simp only [Act.put, List.setIfInBounds_toArray, List.set_cons_zero, List.set_cons_succ]))
        (refine wpAnyH_ready (rs := [8]) (by kernel_rfl) (by simp) ?_; refine AllReadyH.cons rfl (fun K hK => ?_) AllReadyH.nil; go_simp)
        (refine hK.out _ _ (by first | exact (below_alloc wz _).drew | exact below_drew wz) (fun _ => ?_); clear hK K; (try simp only [Act.put, List.setIfInBounds_toArray, List.set_cons_zero, List.set_cons_succ]))
        (refine wpAnyH_ready (rs := [9]) (by kernel_rfl) (by simp) ?_; refine AllReadyH.cons rfl (fun K hK => ?_) AllReadyH.nil; go_simp)
        (refine hK.out _ _ (by first | exact (below_alloc wz _).drew | exact below_drew wz) (fun _ => ?_); clear hK K; (try simp only [Act.put, List.setIfInBounds_toArray, List.set_cons_zero, List.set_cons_succ]))
        (refine wpAnyH_ready (rs := [10]) (by kernel_rfl) (by simp) ?_; refine AllReadyH.cons rfl (fun K hK => ?_) AllReadyH.nil; go_simp)
        (refine hK.out _ _ (by first | exact (below_alloc wz _).drew | exact below_drew wz) (fun _ => ?_); clear hK K; (try simp only [Act.put, List.setIfInBounds_toArray, List.set_cons_zero, List.set_cons_succ]))
        (refine wpAnyH_ready (rs := [11]) (by kernel_rfl) (by simp) ?_; refine AllReadyH.cons rfl (fun K hK => ?_) AllReadyH.nil; go_simp)
        (refine hK.out _ _ (by first | exact (below_alloc wz _).drew | exact below_drew wz) (fun _ => ?_); clear hK K; (try simp only [Act.put, List.setIfInBounds_toArray, List.set_cons_zero, List.set_cons_succ]))
        (refine wpAnyH_ready (rs := [12]) (by kernel_rfl) (by simp) ?_; refine AllReadyH.cons rfl (fun K hK => ?_) AllReadyH.nil; go_simp)
        (refine hK.out _ _ (by first | exact (below_alloc wz _).drew | exact below_drew wz) (fun _ => ?_); clear hK K; (try simp only [Act.put, List.setIfInBounds_toArray, List.set_cons_zero, List.set_cons_succ]))
        (refine wpAnyH_ready (rs := [13]) (by kernel_rfl) (by simp) ?_; refine AllReadyH.cons rfl (fun K hK => ?_) AllReadyH.nil; go_simp)
        (refine hK.out _ _ (by first | exact (below_alloc wz _).drew | exact below_drew wz) (fun _ => ?_); clear hK K; (try simp only [Act.put, List.setIfInBounds_toArray, List.set_cons_zero, List.set_cons_succ]))
        refine wpAnyH_done (by kernel_rfl) ?_ _
        all_goals
          go_wp2_with fail
          go_meet
          case rel => exact ⟨rfl, (below_alloc wz _).drew⟩
    · have ne1 : ¬ (mkStr (body.take 6)).toList = (mkStr arpHead).toList := by rw [mkStr_toList, mkStr_toList]; exact heq
      have hb0 : bad = true := by rw [← Hbad.out]; exact decide_eq_true (.inl heq)
      subst hb0
      clear heq
      (refine wp_region_held_drew (S := fun wy => Below wz.heap.size wz wy) (by kernel_rfl) (below_drew wz) (fun _ => ?_))
      (refine wpAnyH_take (i := 0) (v := .slice (some ⟨gb, off, none⟩) n cap) rfl (by kernel_rfl) (by kernel_rfl) (by kernel_rfl) (fun _ _ _ h => h) (Or.inl ⟨by rfl, by intro wq hSw; go_simp⟩) (below_drew wz) ?_; (try simp only [Act.put, List.setIfInBounds_toArray]))
      (refine wpAnyH_take (i := 1) (v := .slice (cutA (some ⟨gb, off, none⟩) cap 0 1) 6 cap) rfl (by kernel_rfl) (by kernel_rfl) (by kernel_rfl) (fun _ _ _ h => h) (Or.inl ⟨by rfl, by intro wq hSw; go_simp⟩) (below_drew wz) ?_; (try simp only [Act.put]))
      (refine wpAnyH_take (i := 2) (v := .string (mkStr (body.take 6))) rfl (by kernel_rfl) (by kernel_rfl) (by kernel_rfl) (fun _ _ _ h => h) (Or.inl ⟨by rfl, by intro wq hSw; have S9 := run_str Try.underlying22 Try.underlying5 Try.underlying9 (Hh.out.below hSw); go_simp⟩) (below_drew wz) ?_; (try simp only [Act.put]))
      (refine wpAnyH_ready (rs := [3]) (by kernel_rfl) (by simp) ?_; refine AllReadyH.cons rfl (fun K hK => ?_) AllReadyH.nil; go_simp)
      (refine hK.out _ _ (by first | exact (below_alloc wz _).drew | exact below_drew wz) (fun _ => ?_); clear hK K; (try simp only [Act.put, List.setIfInBounds_toArray, List.set_cons_zero, List.set_cons_succ]))
      (refine wpAnyH_ready (rs := [4]) (by kernel_rfl) (by simp) ?_; refine AllReadyH.cons rfl (fun K hK => ?_) AllReadyH.nil; go_simp)
      (refine hK.out _ _ (by first | exact (below_alloc wz _).drew | exact below_drew wz) (fun _ => ?_); clear hK K; (try simp only [Act.put, List.setIfInBounds_toArray, List.set_cons_zero, List.set_cons_succ]))
      (refine wpAnyH_ready (rs := [5]) (by kernel_rfl) (by simp) ?_; refine AllReadyH.cons rfl (fun K hK => ?_) AllReadyH.nil; go_simp)
      (refine hK.out _ _ (by first | exact (below_alloc wz _).drew | exact below_drew wz) (fun _ => ?_); clear hK K; (try simp only [Act.put, List.setIfInBounds_toArray, List.set_cons_zero, List.set_cons_succ]))
      (refine wpAnyH_ready (rs := [6]) (by kernel_rfl) (by simp) ?_; refine AllReadyH.cons rfl (fun K hK => ?_) AllReadyH.nil; go_simp)
      (refine hK.out _ _ (by first | exact (below_alloc wz _).drew | exact below_drew wz) (fun _ => ?_); clear hK K; (try simp only [Act.put, List.setIfInBounds_toArray, List.set_cons_zero, List.set_cons_succ]))
      (refine wpAnyH_ready (rs := [7]) (by kernel_rfl) (by simp) ?_; refine AllReadyH.cons rfl (fun K hK => ?_) AllReadyH.nil; go_simp)
      (refine hK.out _ _ (by first | exact (below_alloc wz _).drew | exact below_drew wz) (fun _ => ?_); clear hK K; (try simp only [Act.put, List.setIfInBounds_toArray, List.set_cons_zero, List.set_cons_succ]))
      (refine wpAnyH_ready (rs := [8]) (by kernel_rfl) (by simp) ?_; refine AllReadyH.cons rfl (fun K hK => ?_) AllReadyH.nil; go_simp)
      (refine hK.out _ _ (by first | exact (below_alloc wz _).drew | exact below_drew wz) (fun _ => ?_); clear hK K; (try simp only [Act.put, List.setIfInBounds_toArray, List.set_cons_zero, List.set_cons_succ]))
      (refine wpAnyH_ready (rs := [9]) (by kernel_rfl) (by simp) ?_; refine AllReadyH.cons rfl (fun K hK => ?_) AllReadyH.nil; go_simp)
      (refine hK.out _ _ (by first | exact (below_alloc wz _).drew | exact below_drew wz) (fun _ => ?_); clear hK K; (try simp only [Act.put, List.setIfInBounds_toArray, List.set_cons_zero, List.set_cons_succ]))
      (refine wpAnyH_ready (rs := [10]) (by kernel_rfl) (by simp) ?_; refine AllReadyH.cons rfl (fun K hK => ?_) AllReadyH.nil; go_simp)
      (refine hK.out _ _ (by first | exact (below_alloc wz _).drew | exact below_drew wz) (fun _ => ?_); clear hK K; (try simp only [Act.put, List.setIfInBounds_toArray, List.set_cons_zero, List.set_cons_succ]))
      (refine wpAnyH_ready (rs := [11]) (by kernel_rfl) (by simp) ?_; refine AllReadyH.cons rfl (fun K hK => ?_) AllReadyH.nil; go_simp)
      (refine hK.out _ _ (by first | exact (below_alloc wz _).drew | exact below_drew wz) (fun _ => ?_); clear hK K; (try simp only [Act.put, List.setIfInBounds_toArray, List.set_cons_zero, List.set_cons_succ]))
      (refine wpAnyH_ready (rs := [12]) (by kernel_rfl) (by simp) ?_; refine AllReadyH.cons rfl (fun K hK => ?_) AllReadyH.nil; go_simp)
      (refine hK.out _ _ (by first | exact (below_alloc wz _).drew | exact below_drew wz) (fun _ => ?_); clear hK K; (try simp only [Act.put, List.setIfInBounds_toArray, List.set_cons_zero, List.set_cons_succ]))
      (refine wpAnyH_ready (rs := [13]) (by kernel_rfl) (by simp) ?_; refine AllReadyH.cons rfl (fun K hK => ?_) AllReadyH.nil; go_simp)
      (refine hK.out _ _ (by first | exact (below_alloc wz _).drew | exact below_drew wz) (fun _ => ?_); clear hK K; (try simp only [Act.put, List.setIfInBounds_toArray, List.set_cons_zero, List.set_cons_succ]))
      refine wpAnyH_done (by kernel_rfl) ?_ _
      all_goals
        go_wp2_with fail
        go_meet
        case rel => exact ⟨rfl, (below_alloc wz _).drew⟩
  case rest =>
  obtain ⟨rfl, hbx⟩ := hcut
  have HPx := hid (HP.out.keep hbx)
  have HWx := hid (HW.out.trans (hbx.mono HW.out.size))
  have HBx := hid (Hz.out.below hbx)
  clear hbx Hh HP HW Hz S4
  generalize wc = wx at *
  go_step
  cases bad with
  | true =>
    have HC2 := hid (HC.out.trans (if_pos rfl))
    go_wp2_with fail
    go_ret2
    exact RHearPost.refused HC2.out (by decide) H.out HWx.out
  | false =>
  have hu1 : IntKind.u32.wrap (ti : Int) = (ti : Int) := IntWalk.u32_in _ (by have := Hlt.out; omega)
  have hu2 : IntKind.u32.wrap (si : Int) = (si : Int) := IntWalk.u32_in _ (by have := Hlt.out; omega)
  have c6 : wx.cell? ⟨gX, 6, none⟩ = some (.int .u32 (ip : Int)) := by
    obtain ⟨vL, h⟩ := HPx.out
    exact h.tab.cell 6
  go_upto_region 11 with (first
    | (go_at_call 35; (with_reducible refine (rbe_any _ body 14 4 _ HBx.out (by decide) (by decide)).mono ?_); rintro e w' ⟨rfl, rfl⟩; rw [C2.out]; dsimp only; rw [Hsi.out])
    | (go_at_call 35; (with_reducible refine (rbe_any _ body 24 4 _ HBx.out (by decide) (by decide)).mono ?_); rintro e w' ⟨rfl, rfl⟩; rw [C3.out]; dsimp only; rw [Hti.out]))
  by_cases hti : ti = ip
  case neg =>
    have HC2 := hid (show hearCode ip ⟨⟨a0, a1, a2, a3, a4, a5⟩, ⟨b0, b1, b2, b3, b4, b5⟩, 2054, body⟩ = 18 by rw [HC.out, if_neg (by simp), if_pos hti])
    have hnb : ((ti : Int) != (ip : Int)) = true := by simp; omega
    clear hti
    go_wp2_with fail
    go_ret2
    exact RHearPost.refused HC2.out (by decide) H.out HWx.out
  have HC2 := hid (show hearCode ip ⟨⟨a0, a1, a2, a3, a4, a5⟩, ⟨b0, b1, b2, b3, b4, b5⟩, 2054, body⟩ = 0 by rw [HC.out, if_neg (by simp), if_neg (by simpa using hti)])
  have hnb : ((ti : Int) != (ip : Int)) = false := by simp; omega
  clear hti
  have s2 := cut8_from (some ⟨gb, off, none⟩) n cap 8 8 (n - 8) rfl (by have := Hlen.out; omega) Hcap.out.1
  have hcut8 := HBx.out.cut (l := 8) (k := n - 8) (by have := Hlen.out; omega)
  rw [List.take_of_length_le (by rw [List.length_drop, Hn.out]; exact Nat.le_refl _)] at hcut8
  have hmac := fun wy (h : Below wx.heap.size wx wy) => mac_any _ (body.drop 8) wy (hcut8.below h) (by rw [List.length_drop, Hn.out]; have := Hlen.out; omega)
  obtain ⟨d0, d1, d2, d3, d4, d5, hd⟩ : ∃ d0 d1 d2 d3 d4 d5, macAt body 8 = ⟨d0, d1, d2, d3, d4, d5⟩ := ⟨_, _, _, _, _, _, rfl⟩
  rw [macAt_drop, hd] at hmac
  dsimp only [Mac.val, Mac.cells] at hmac
  have Hmac := hid hmac
  have Hd := hid hd
  have HLs := hid (show hearList ip l ⟨⟨a0, a1, a2, a3, a4, a5⟩, ⟨b0, b1, b2, b3, b4, b5⟩, 2054, body⟩ = pLearn l si ⟨d0, d1, d2, d3, d4, d5⟩ by unfold hearList; rw [if_pos HC2.out, Hsi.out, hd])
  have HL : ∀ wy FX, RPInv wy base gX mac ip l FX → base ≤ wy.heap.size → Calls Try.prog 16 #[.pointer (some ⟨gX, 0, none⟩), .int .u32 (si : Int), .agg #[.int .u8 (d0.toNat : Int), .int .u8 (d1.toNat : Int), .int .u8 (d2.toNat : Int), .int .u8 (d3.toNat : Int), .int .u8 (d4.toNat : Int), .int .u8 (d5.toNat : Int)]] wy (RLearnPost base gX mac ip l FX si ⟨d0, d1, d2, d3, d4, d5⟩ wy) := fun wy FX h hb => rlearn_any base gX mac ip l FX si ⟨d0, d1, d2, d3, d4, d5⟩ wy h hb
  have HL := hid HL
  have Hbase := hid hbase
  clear hcut8 hmac hd hbase
  go_upto_region 14 with (first
    | (go_at_call 26; (with_reducible refine (Hmac.out _ (Below.refl _ _)).mono ?_); rintro e w3 ⟨rfl, hb⟩; have Hb3 := hid hb; clear hb)
    | ((with_reducible show wpList _ _ _ (Oper.mk none _ _ _ _ _ :: _) _ _); refine wpList_storeBlk rfl _ _ _ rfl _ _ rfl rfl _ _ (Blk.new _ _ _) macinfo rfl rfl ?_; intro w4 hblk hg hsz; have Hb4 := hid (Hb3.out.trans ((below_new_store hg).mono Hb3.out.size)); have B4 := hid hblk; clear hblk hg hsz))
  obtain ⟨g12, hg12⟩ : ∃ g, w3.heap.size = g := ⟨_, rfl⟩
  have Hge := hid (show wx.heap.size ≤ g12 by rw [← hg12]; exact Hb3.out.size)
  rw [hg12] at B4 ⊢
  have P4 := hid (HPx.out.keep Hb4.out)
  have HW4 := hid (HWx.out.trans (Hb4.out.mono HWx.out.size))
  have k0 := B4.out.cell 0
  have k1 := B4.out.cell 1
  have k2 := B4.out.cell 2
  have k3 := B4.out.cell 3
  have k4 := B4.out.cell 4
  have k5 := B4.out.cell 5
  clear Hb3 Hb4 Hmac HPx hg12 c6
  go_upto_region 15 with (go_at_call 16; (refine (HL.out _ FX P4.out (Nat.le_trans Hbase.out HW4.out.size)).mono ?_); rintro e w5 ⟨⟨u5, rfl⟩, FX', hp5, hf5, hF5⟩; have HP5 := hid hp5; have HF5 := hid hf5; have HFF := hid hF5; clear hp5 hf5 hF5)
  have hlx : ∀ k, FX k → k < w.heap.size := fun k hk => (H.out.lt k hk).2
  have B5 := hid (HF5.out.blk B4.out (fun q => by have := hlx _ q; have := HWx.out.size; have := Hge.out; omega))
  have Hfr := hid (show Frame FX w w5 from (Below.frameF HW4.out FX).trans HF5.out (fun _ _ q => q))
  have HFn := hid (show ∀ k, FX' k → FX k ∨ w.heap.size ≤ k from fun k hk => (HFF.out k hk).imp id (fun q => by have := HW4.out.size; omega))
  clear k0 k1 k2 k3 k4 k5 hlx
  by_cases hw2 : what = 2
  · have t2 : ((what : Int) == 2) = true := by simp; omega
    have HT := hid (show hearTell mac ip ⟨⟨a0, a1, a2, a3, a4, a5⟩, ⟨b0, b1, b2, b3, b4, b5⟩, 2054, body⟩ = [] by unfold hearTell; rw [Hwhat.out, if_neg (fun q => q.2 hw2)])
    clear hw2
    go_wp2_with fail
    go_ret2
    unfold RHearPost
    rw [HT.out, HLs.out, HC2.out]
    exact ⟨_, rfl, OwnBs.nil _ _ _, FX', HP5.out, Hfr.out, HFn.out, fun k hk => by simp [Value.ownBlock] at hk⟩
  have t2 : ((what : Int) == 2) = false := by simp; omega
  have HT := hid (show hearTell mac ip ⟨⟨a0, a1, a2, a3, a4, a5⟩, ⟨b0, b1, b2, b3, b4, b5⟩, 2054, body⟩ = arpFrame ⟨d0, d1, d2, d3, d4, d5⟩ 2 mac ip ⟨d0, d1, d2, d3, d4, d5⟩ si by unfold hearTell; rw [Hwhat.out, if_pos ⟨HC2.out, hw2⟩, Hsi.out, Hd.out])
  clear hw2
  obtain ⟨q0, q1, q2, q3, q4, q5⟩ := mac
  have HCx := hid (show _ ∧ _ from by obtain ⟨vL, h⟩ := HP5.out; exact And.intro (blk6 B5.out) h.cells)
  have HA : ∀ wx, Calls Try.prog 36 #[.int .i64 2, .agg #[.int .u8 (q0.toNat : Int), .int .u8 (q1.toNat : Int), .int .u8 (q2.toNat : Int), .int .u8 (q3.toNat : Int), .int .u8 (q4.toNat : Int), .int .u8 (q5.toNat : Int)], .int .u32 (ip : Int), .agg #[.int .u8 (d0.toNat : Int), .int .u8 (d1.toNat : Int), .int .u8 (d2.toNat : Int), .int .u8 (d3.toNat : Int), .int .u8 (d4.toNat : Int), .int .u8 (d5.toNat : Int)], .int .u32 (si : Int)] wx fun e w' => ∃ v', e = .returned v' ∧ OwnBs w' wx.heap.size 5 v' (arpBody 2 ⟨q0, q1, q2, q3, q4, q5⟩ ip ⟨d0, d1, d2, d3, d4, d5⟩ si) ∧ Below wx.heap.size wx w' := fun wx => rarp_any 2 (by decide) ⟨q0, q1, q2, q3, q4, q5⟩ ip Hip.out ⟨d0, d1, d2, d3, d4, d5⟩ si Hlt.out.1 wx
  have HA := hid HA
  have hbl := arp_len 2 ⟨q0, q1, q2, q3, q4, q5⟩ ip ⟨d0, d1, d2, d3, d4, d5⟩ si
  obtain ⟨B, hB⟩ : ∃ B, arpBody 2 ⟨q0, q1, q2, q3, q4, q5⟩ ip ⟨d0, d1, d2, d3, d4, d5⟩ si = B := ⟨_, rfl⟩
  have hWr : ∀ (A : Option Addr) (cap : Nat) (wx : World), Bs wx (.slice A 28 cap) B → Calls Try.prog 11 #[.agg #[.int .u8 (d0.toNat : Int), .int .u8 (d1.toNat : Int), .int .u8 (d2.toNat : Int), .int .u8 (d3.toNat : Int), .int .u8 (d4.toNat : Int), .int .u8 (d5.toNat : Int), .int .u8 (q0.toNat : Int), .int .u8 (q1.toNat : Int), .int .u8 (q2.toNat : Int), .int .u8 (q3.toNat : Int), .int .u8 (q4.toNat : Int), .int .u8 (q5.toNat : Int), .int .i64 2054, .slice A 28 cap]] wx (WritePost ⟨⟨d0, d1, d2, d3, d4, d5⟩, ⟨q0, q1, q2, q3, q4, q5⟩, 2054, B⟩ wx) := fun A cap wx hb => rwrite_any ⟨⟨d0, d1, d2, d3, d4, d5⟩, ⟨q0, q1, q2, q3, q4, q5⟩, 2054, B⟩ A 28 cap wx hb
  have HFr := hid (show arpFrame ⟨d0, d1, d2, d3, d4, d5⟩ 2 ⟨q0, q1, q2, q3, q4, q5⟩ ip ⟨d0, d1, d2, d3, d4, d5⟩ si = (eWrite ⟨⟨d0, d1, d2, d3, d4, d5⟩, ⟨q0, q1, q2, q3, q4, q5⟩, 2054, B⟩).1 by unfold arpFrame; rw [hB])
  rw [hB] at HA hbl
  have HWr := hid hWr
  have Hbl := hid hbl
  clear hWr hB hbl
  go_upto_region 17 with fail
  go_region_held3 (fun wy => (wy.cell? ⟨g12, 0, none⟩ = some (.int .u8 (d0.toNat : Int)) ∧ wy.cell? ⟨g12, 1, none⟩ = some (.int .u8 (d1.toNat : Int)) ∧ wy.cell? ⟨g12, 2, none⟩ = some (.int .u8 (d2.toNat : Int)) ∧ wy.cell? ⟨g12, 3, none⟩ = some (.int .u8 (d3.toNat : Int)) ∧ wy.cell? ⟨g12, 4, none⟩ = some (.int .u8 (d4.toNat : Int)) ∧ wy.cell? ⟨g12, 5, none⟩ = some (.int .u8 (d5.toNat : Int))) ∧ wy.cell? ⟨gX, 0, none⟩ = some (.int .u8 (q0.toNat : Int)) ∧ wy.cell? ⟨gX, 1, none⟩ = some (.int .u8 (q1.toNat : Int)) ∧ wy.cell? ⟨gX, 2, none⟩ = some (.int .u8 (q2.toNat : Int)) ∧ wy.cell? ⟨gX, 3, none⟩ = some (.int .u8 (q3.toNat : Int)) ∧ wy.cell? ⟨gX, 4, none⟩ = some (.int .u8 (q4.toNat : Int)) ∧ wy.cell? ⟨gX, 5, none⟩ = some (.int .u8 (q5.toNat : Int)) ∧ wy.cell? ⟨gX, 6, none⟩ = some (.int .u32 (ip : Int))) (first | exact ⟨keep6 Hb7.out HCx.out.1, keep7 Hb7.out HCx.out.2⟩ | exact ⟨keep6 (Hb7.out.drew) HCx.out.1, keep7 (Hb7.out.drew) HCx.out.2⟩ | exact ⟨keep6 Hb6.out HCx.out.1, keep7 Hb6.out HCx.out.2⟩ | exact ⟨keep6 (Hb6.out.drew) HCx.out.1, keep7 (Hb6.out.drew) HCx.out.2⟩ | exact ⟨keep6 (below_drew _) HCx.out.1, keep7 (below_drew _) HCx.out.2⟩ | exact HCx.out) (first
    | (go_at_call 36; (with_reducible refine (HA.out _).mono ?_); rintro e w6 ⟨v6, rfl, hown, hb⟩; have Hb6 := hid (show Below w5.heap.size w5 w6 from by first | exact hb | exact first_below hb); obtain ⟨A6, cap6, rfl⟩ := slice_len hown.bs Hbl.out; have HB6 := hid hown.bs; clear hown hb)
    | (go_at_call 11; (with_reducible refine (HWr.out A6 cap6 _ (by first | exact HB6.out | exact HB6.out.drew)).mono ?_); rintro e w7 ⟨v7, rfl, hown, hb⟩; have Hb7 := hid (show Below w5.heap.size w5 w7 from Hb6.out.trans ((show Below w6.heap.size w6 w7 from by first | exact hb | exact first_below hb).mono Hb6.out.size)); have O7 := hid (show OwnBs w7 w5.heap.size 5 v7 _ from hown.mono (by first | exact Hb6.out.size)); clear hown hb)
    | fail)
  all_goals
    go_wp2_with fail
    go_ret2
    unfold RHearPost
    rw [HT.out, HLs.out, HC2.out]
    refine ⟨_, rfl, ?_, FX', HP5.out.keep Hb7.out, Hfr.out.trans (Below.frameF Hb7.out FX) (fun _ _ q => q), HFn.out, fun k hk q => ?_⟩
    · rw [HFr.out]; exact O7.out.mono Hfr.out.size
    · have h1 := (HP5.out.lt k q).2
      have h2 := own_ge O7.out hk
      omega
end Go.Proofs.Ytefpfjdfkecjkaa
