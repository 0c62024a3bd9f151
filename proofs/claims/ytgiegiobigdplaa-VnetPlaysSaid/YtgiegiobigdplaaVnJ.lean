/- The program's device gives a chain back. -/
import Derived.Test.YtgiegiobigdplaaVnI
namespace Go.Proofs.Ytgiegiobigdplaa
open Go Go.RowKit
attribute [local go_sem ↓] Go.wp_at_zero Go.wp_at_succ
set_option maxRecDepth 100000
set_option linter.unusedSimpArgs false

def GivePost (base gm b n g : Nat) (d : VD) (M : List UInt8) (head len : Nat) (w : World) (e : Ending) (w' : World) : Prop :=
  e = .returned (.int .i64 0) ∧ DevAt w' base gm b n g d.give ∧ MemAt w' gm (vGiveM M b n d.put head len) ∧ Frame (fun k => k = g ∨ k = gm) w w'
/-- what the walk of Give holds -/
structure GiveW (w0 w : World) (base gm b n g : Nat) (d : VD) (Mx : List UInt8) : Prop where
  dev : DevAt w base gm b n g d
  mem : MemAt w gm Mx
  ne : g ≠ gm
  fr : Frame (fun k => k = g ∨ k = gm) w0 w
section
variable {w0 w w' : World} {base gm b n g : Nat} {d : VD} {Mx My : List UInt8}
theorem GiveW.keep (h : GiveW w0 w base gm b n g d Mx) (hb : Below w.heap.size w w') : GiveW w0 w' base gm b n g d Mx := ⟨h.dev.keep hb, h.mem.keep hb, h.ne, h.fr.trans (Below.frameF hb _) (fun _ _ h => h)⟩
theorem GiveW.set_ (h : GiveW w0 w base gm b n g d Mx) (hf : Frame (fun k => k = gm) w w') (hm : MemAt w' gm My) : GiveW w0 w' base gm b n g d My := ⟨h.dev.frame hf h.ne, hm, h.ne, h.fr.trans hf (fun _ _ e => .inr e)⟩
theorem GiveW.put_ (h : GiveW w0 w base gm b n g d Mx) (x : Nat) (hx : x < 65536) : GiveW w0 (w.setCell ⟨g, 3, none⟩ (.int .i64 (x : Int))) base gm b n g { d with put := x } Mx :=
  ⟨h.dev.put_ x hx, h.mem.frame (frame_mem (grown_set _ _ _ _)) (fun e => h.ne e.symm), h.ne, h.fr.trans (frame_mem (grown_set _ _ _ _)) (fun _ _ e => .inl e)⟩
theorem GiveW.c0 (h : GiveW w0 w base gm b n g d Mx) : w.cell? ⟨g, 0, none⟩ = some (.slice (some ⟨gm, b, none⟩) (vSize n) (vSize n)) := h.dev.tab.cell 0
theorem GiveW.c1 (h : GiveW w0 w base gm b n g d Mx) : w.cell? ⟨g, 1, none⟩ = some (.int .i64 (n : Int)) := h.dev.tab.cell 1
theorem GiveW.c3 (h : GiveW w0 w base gm b n g d Mx) {x : Nat} (e : d.put = x) : w.cell? ⟨g, 3, none⟩ = some (.int .i64 (x : Int)) := by subst e; exact h.dev.tab.cell 3
end
theorem vGiveM_eq (n b put pm pf pg pu pt1 head len : Nat) (M M1 M2 : List UInt8) (h1 : put % n = pm ∧ 18 * n + 4 + 4 + 8 * pm = pf ∧ pf + 4 = pg ∧ 18 * n + 4 + 2 = pu) (h2 : (put + 1) % 65536 = pt1) (e1 : putAt M (b + pf) 4 head = M1) (e2 : putAt M1 (b + pg) 4 len = M2) : putAt M2 (b + pu) 2 pt1 = vGiveM M b n put head len := by
  obtain ⟨rfl, rfl, rfl, rfl⟩ := h1
  subst h2 e1 e2
  rfl
set_option maxHeartbeats 4000000 in
theorem vgive_at (base gm b n g head len : Nat) (d : VD) (M : List UInt8) (w : World) (h : DevAt w base gm b n g d) (hm : MemAt w gm M) (hok : okN (n : Int) = true) (hb : b + vSize n ≤ M.length) (hh : head < n) (hl : len < 4294967296) :
    Calls Try.prog 46 #[.pointer (some ⟨g, 0, none⟩), .int .i64 (head : Int), .int .i64 (len : Int)] w (GivePost base gm b n g d M head len w) := by
  have hn := okN_le hok
  have Hb := hid hb
  have HA := hid (show GiveW w w base gm b n g d M from ⟨h, hm, blk_ne h.tab hm (by decide), Frame.refl _ _⟩)
  obtain ⟨pt, hpt⟩ : ∃ x, d.put = x := ⟨_, rfl⟩
  have Hpt := hid hpt
  have hptl : pt < 65536 := by rw [← hpt]; exact h.put
  obtain ⟨pm, hpm⟩ : ∃ x : Nat, pt % n = x := ⟨_, rfl⟩
  have hpmn : pm < n := by rw [← hpm]; exact Nat.mod_lt _ (by omega)
  have hpmI : (pt : Int) % (n : Int) = (pm : Int) := by rw [← hpm]; exact (Int.natCast_emod _ _).symm
  have hpmT : Int.tmod (pt : Int) (n : Int) = (pm : Int) := by rw [Int.tmod_eq_emod_of_nonneg (by omega)]; exact hpmI
  obtain ⟨pf, hpf⟩ : ∃ x : Nat, 18 * n + 4 + 4 + 8 * pm = x := ⟨_, rfl⟩
  have hpfI : 18 * (n : Int) + 4 + 4 + 8 * (pm : Int) = (pf : Int) := by omega
  obtain ⟨pg, hpg⟩ : ∃ x : Nat, pf + 4 = x := ⟨_, rfl⟩
  have hpgI : (pf : Int) + 4 = (pg : Int) := by omega
  obtain ⟨pu, hpu⟩ : ∃ x : Nat, 18 * n + 4 + 2 = x := ⟨_, rfl⟩
  have hpuI : 18 * (n : Int) + 4 + 2 = (pu : Int) := by omega
  have hbnd : pg + 4 ≤ vSize n ∧ pu + 2 ≤ vSize n := by unfold vSize; omega
  have Hbnd := hid hbnd
  have hw3 : IntKind.i64.wrap (18 * (n : Int) + 4 + 4) = 18 * (n : Int) + 4 + 4 := IntWalk.i64_in _ (by omega)
  have hw4 : IntKind.i64.wrap (8 * (pm : Int)) = 8 * (pm : Int) := IntWalk.i64_in _ (by omega)
  have hw5 : IntKind.i64.wrap (pf : Int) = (pf : Int) := IntWalk.i64_in _ (by omega)
  have hw6 : IntKind.i64.wrap (pg : Int) = (pg : Int) := IntWalk.i64_in _ (by omega)
  have hw7 : IntKind.i64.wrap (18 * (n : Int) + 4 + 2) = (pu : Int) := by rw [hpuI]; exact IntWalk.i64_in _ (by omega)
  have hw8 : IntKind.i64.wrap (pu : Int) = (pu : Int) := IntWalk.i64_in _ (by omega)
  have hhu := u64w head (by omega)
  have hlu := u64w len (by omega)
  have hn0N : ¬ n = 0 := by omega
  have t1 : ¬ (head : Int) < 0 := by omega
  have t2 : ¬ (n : Int) ≤ (head : Int) := by omega
  have t3 : ¬ (len : Int) < 0 := by omega
  have t4 : ¬ (len : Int) > 4294967295 := by omega
  obtain ⟨pt1, hpt1⟩ : ∃ x, (pt + 1) % 65536 = x := ⟨_, rfl⟩
  have hpt1l : pt1 < 65536 := by omega
  have hptu := u64w pt1 (by omega)
  have Hpa := hid (show d.put % n = pm ∧ 18 * n + 4 + 4 + 8 * pm = pf ∧ pf + 4 = pg ∧ 18 * n + 4 + 2 = pu from ⟨by rw [hpt]; exact hpm, hpf, hpg, hpu⟩)
  have Hpt1 := hid (show (d.put + 1) % 65536 = pt1 by rw [hpt]; exact hpt1)
  have HNx := hid (fun wy => vnext_at pt wy hptl)
  rw [hpt1] at HNx
  have HBk := hid (fun j => quiet0 (vback_at g n (w.drewN j) (by omega) (h.tab.cell 1)))
  have c1 := HA.out.c1
  have c3 := HA.out.c3 Hpt.out
  have hhn : head < 65536 := by omega
  clear h hm hok hb hpm hpf hpg hpu hpt hpt1 hbnd
  go_enter Try.func46, Try.ntmps46
  go_upto_region 3 with fail
  go_quiet ((go_at_call 61; (with_reducible exact Calls.quiet_of (HBk.out _))))
  revert nq
  intro q1
  have A1 := hid (HA.out.keep (below_drewN (Below.refl _ _) q1))
  clear HA HBk c1 c3
  generalize w.drewN q1 = w1 at *
  go_upto_region 5 with (go_at_call 62; (with_reducible refine (set4_at g gm b (vSize n) M pf head _ A1.out.mem Hb.out (by have := Hbnd.out; omega) (by omega) A1.out.c0).mono ?_); rintro e w2 ⟨⟨u, rfl⟩, m2, f2⟩; have A2 := hid (A1.out.set_ f2 m2); clear m2 f2)
  obtain ⟨M1, hM1⟩ : ∃ x, putAt M (b + pf) 4 head = x := ⟨_, rfl⟩
  have Hb1 := hid (show b + vSize n ≤ M1.length by rw [← hM1, putAt_len (by have := Hb.out; have := Hbnd.out; omega)]; exact Hb.out)
  rw [hM1] at A2
  have HM1 := hid hM1
  clear hM1 A1
  go_upto_region 6 with (go_at_call 62; (with_reducible refine (set4_at g gm b (vSize n) M1 pg len _ A2.out.mem Hb1.out (by have := Hbnd.out; omega) hl A2.out.c0).mono ?_); rintro e w3 ⟨⟨u, rfl⟩, m3, f3⟩; have A3 := hid (A2.out.set_ f3 m3); clear m3 f3)
  obtain ⟨M2, hM2⟩ : ∃ x, putAt M1 (b + pg) 4 len = x := ⟨_, rfl⟩
  have Hb2 := hid (show b + vSize n ≤ M2.length by rw [← hM2, putAt_len (by have := Hb1.out; have := Hbnd.out; omega)]; exact Hb1.out)
  rw [hM2] at A3
  have HM2 := hid hM2
  have c3 := A3.out.c3 Hpt.out
  have z3 := A3.out.dev.tab.frozen 3
  clear hM2 A2
  go_upto_region 7 with (go_at_call 60; refine (HNx.out _).mono ?_; rintro e w' ⟨rfl, hw⟩; have hw := hw.symm; subst hw)
  have A4 := hid (A3.out.put_ pt1 hpt1l)
  clear A3 c3 z3
  generalize w3.setCell ⟨g, 3, none⟩ (.int .i64 (pt1 : Int)) = w4 at *
  have g3 : w4.cell? ⟨g, 3, none⟩ = some (.int .i64 (pt1 : Int)) := A4.out.c3 rfl
  have HBk := hid (fun wy (y : Below w4.heap.size w4 wy) => vback_at g n wy (by omega) (A4.out.keep y).c1)
  go_region_held3 (fun wy => wy.cell? ⟨g, 3, none⟩ = some (.int .i64 (pt1 : Int))) (first | exact g3 | exact cell_below (below_drew _) g3 | exact r3) (first
    | (go_at_call 61; refine (HBk.out _ (by first | exact Below.refl _ _ | exact below_drew _)).mono ?_; rintro e w' ⟨rfl, hw⟩; have hw := hw.symm; subst hw)
    | (go_at_call 62; (with_reducible refine (set2_at g gm b (vSize n) M2 pu pt1 _ (A4.out.keep (below_drew _)).mem Hb2.out (by have := Hbnd.out; omega) hpt1l (A4.out.keep (below_drew _)).c0).mono ?_); rintro e w5 ⟨⟨u, rfl⟩, m5, f5⟩; have A5 := hid ((A4.out.keep (below_drew _)).set_ f5 m5); have r3 := A5.out.c3 rfl; clear m5 f5)
    | fail)
  all_goals
    go_wp2_with fail
    go_ret
    have hM := vGiveM_eq n b d.put pm pf pg pu pt1 head len M M1 M2 Hpa.out Hpt1.out HM1.out HM2.out
    have h5 := A5.out
    rw [hM] at h5
    have eq : d.give = { d with put := pt1 } := by unfold VD.give; rw [Hpt1.out]
    exact ⟨rfl, by rw [eq]; exact h5.dev, h5.mem, h5.fr⟩
end Go.Proofs.Ytgiegiobigdplaa
