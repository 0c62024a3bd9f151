/- The document's device: made; a chain is given back. -/
import Derived.Test.YtgiegiobigdplaaVnJ
namespace Go.Proofs.Ytgiegiobigdplaa
open Go Go.RowKit
attribute [local go_sem ↓] Go.wp_at_zero Go.wp_at_succ
set_option maxRecDepth 100000
set_option linter.unusedSimpArgs false
set_option linter.unusedVariables false

theorem rset2_at (gm L : Nat) (M : List UInt8) (p v : Nat) (w : World) (hL : M.length = L) (hL1 : L ≤ 1000000) (hm : MemAt w gm M) (hp : p + 2 ≤ L) (hv : v < 9223372036854775808) :
    Calls Try.prog 57 #[.slice (some ⟨gm, 0, none⟩) L L, .int .i64 (p : Int), .int .i64 2, .int .i64 (v : Int)] w (SetPost gm (putAt M p 2 v) w) := rvset_at gm L M p 2 v w hL hL1 hm hp (by decide) hv
theorem rset4_at (gm L : Nat) (M : List UInt8) (p v : Nat) (w : World) (hL : M.length = L) (hL1 : L ≤ 1000000) (hm : MemAt w gm M) (hp : p + 4 ≤ L) (hv : v < 9223372036854775808) :
    Calls Try.prog 57 #[.slice (some ⟨gm, 0, none⟩) L L, .int .i64 (p : Int), .int .i64 4, .int .i64 (v : Int)] w (SetPost gm (putAt M p 4 v) w) := rvset_at gm L M p 4 v w hL hL1 hm hp (by decide) hv
theorem rset8_at (gm L : Nat) (M : List UInt8) (p v : Nat) (w : World) (hL : M.length = L) (hL1 : L ≤ 1000000) (hm : MemAt w gm M) (hp : p + 8 ≤ L) (hv : v < 9223372036854775808) :
    Calls Try.prog 57 #[.slice (some ⟨gm, 0, none⟩) L L, .int .i64 (p : Int), .int .i64 8, .int .i64 (v : Int)] w (SetPost gm (putAt M p 8 v) w) := rvset_at gm L M p 8 v w hL hL1 hm hp (by decide) hv
theorem rle2_at (gm L : Nat) (M : List UInt8) (p : Nat) (w : World) (hL : M.length = L) (hL1 : L ≤ 1000000) (hm : MemAt w gm M) (hp : p + 2 ≤ L) :
    Calls Try.prog 55 #[.slice (some ⟨gm, 0, none⟩) L L, .int .i64 (p : Int), .int .i64 2] w fun e w' => e = .returned (.int .i64 (leAt M p 2 : Int)) ∧ w' = w := rvle_at gm L M p 2 w hL hL1 hm hp (.inl rfl)
theorem rle4_at (gm L : Nat) (M : List UInt8) (p : Nat) (w : World) (hL : M.length = L) (hL1 : L ≤ 1000000) (hm : MemAt w gm M) (hp : p + 4 ≤ L) :
    Calls Try.prog 55 #[.slice (some ⟨gm, 0, none⟩) L L, .int .i64 (p : Int), .int .i64 4] w fun e w' => e = .returned (.int .i64 (leAt M p 4 : Int)) ∧ w' = w := rvle_at gm L M p 4 w hL hL1 hm hp (.inr rfl)
/-- a device of the document's -/
def rdevCells (gm L b n got put : Nat) : List Value := [.slice (some ⟨gm, 0, none⟩) L L, .int .i64 (b : Int), .int .i64 (n : Int), .int .i64 (got : Int), .int .i64 (put : Int)]
structure RDevAt (w : World) (base gm L b n g : Nat) (d : VD) : Prop where
  tab : Blk w g 119 (rdevCells gm L b n d.got d.put)
  got : d.got < 65536
  put : d.put < 65536
  lo : base ≤ g
section
variable {w w' : World} {base gm L b n g : Nat} {d : VD}
theorem RDevAt.keep (h : RDevAt w base gm L b n g d) (hb : Below w.heap.size w w') : RDevAt w' base gm L b n g d := ⟨h.tab.keep hb, h.got, h.put, h.lo⟩
theorem RDevAt.drewN (h : RDevAt w base gm L b n g d) (k : Nat) : RDevAt (w.drewN k) base gm L b n g d := h.keep (below_drewN (Below.refl _ _) k)
theorem RDevAt.frame {F : Nat → Prop} (h : RDevAt w base gm L b n g d) (hf : Frame F w w') (hn : ¬ F g) : RDevAt w' base gm L b n g d := ⟨hf.blk h.tab hn, h.got, h.put, h.lo⟩
theorem RDevAt.below {B : Nat} (h : RDevAt w base gm L b n g d) (hb : Below B w w') (hg : g < B) : RDevAt w' base gm L b n g d := ⟨h.tab.below hb hg, h.got, h.put, h.lo⟩
theorem RDevAt.got_ (h : RDevAt w base gm L b n g d) (x : Nat) (hx : x < 65536) : RDevAt (w.setCell ⟨g, 3, none⟩ (.int .i64 (x : Int))) base gm L b n g { d with got := x } := ⟨h.tab.set_ 3 _, hx, h.put, h.lo⟩
theorem RDevAt.put_ (h : RDevAt w base gm L b n g d) (x : Nat) (hx : x < 65536) : RDevAt (w.setCell ⟨g, 4, none⟩ (.int .i64 (x : Int))) base gm L b n g { d with put := x } := ⟨h.tab.set_ 4 _, h.got, hx, h.lo⟩
end
theorem rnewdev_yes (gm L b n : Nat) (w : World) (hok : okN (n : Int) = true) (hb : b + vSize n ≤ L) (hL : L ≤ 1000000) :
    Calls Try.prog 34 #[.slice (some ⟨gm, 0, none⟩) L L, .int .i64 (b : Int), .int .i64 (n : Int)] w fun e w' => ∃ g, e = .returned (.tuple #[.pointer (some ⟨g, 0, none⟩), .int .i64 0]) ∧ RDevAt w' w.heap.size gm L b n g ⟨0, 0⟩ ∧ Below w.heap.size w w' := by
  have HA := hid (rvfits_yes (some ⟨gm, 0, none⟩) L L b n w hok hb hL)
  clear hok hb hL
  go_enter Try.func34, Try.ntmps34
  go_wp2_with (go_at_call 52; refine HA.out.mono ?_; rintro e w2 ⟨rfl, hw⟩; have hw := hw.symm; subst hw)
  go_ret2
  exact ⟨_, rfl, ⟨Blk.new _ 119 _, by decide, by decide, Nat.le_refl _⟩, below_alloc _ _⟩
/-- what the walk of Give holds -/
structure RGiveW (w0 w : World) (base gm L b n g : Nat) (d : VD) (Mx : List UInt8) : Prop where
  dev : RDevAt w base gm L b n g d
  mem : MemAt w gm Mx
  len : Mx.length = L
  ne : g ≠ gm
  fr : Frame (fun k => k = g ∨ k = gm) w0 w
section
variable {w0 w w' : World} {base gm L b n g : Nat} {d : VD} {Mx My : List UInt8}
theorem RGiveW.keep (h : RGiveW w0 w base gm L b n g d Mx) (hb : Below w.heap.size w w') : RGiveW w0 w' base gm L b n g d Mx := ⟨h.dev.keep hb, h.mem.keep hb, h.len, h.ne, h.fr.trans (Below.frameF hb _) (fun _ _ h => h)⟩
theorem RGiveW.set_ (h : RGiveW w0 w base gm L b n g d Mx) (hf : Frame (fun k => k = gm) w w') (hm : MemAt w' gm My) (hl : My.length = L) : RGiveW w0 w' base gm L b n g d My := ⟨h.dev.frame hf h.ne, hm, hl, h.ne, h.fr.trans hf (fun _ _ e => .inr e)⟩
theorem RGiveW.put_ (h : RGiveW w0 w base gm L b n g d Mx) (x : Nat) (hx : x < 65536) : RGiveW w0 (w.setCell ⟨g, 4, none⟩ (.int .i64 (x : Int))) base gm L b n g { d with put := x } Mx :=
  ⟨h.dev.put_ x hx, h.mem.frame (frame_mem (grown_set _ _ _ _)) (fun e => h.ne e.symm), h.len, h.ne, h.fr.trans (frame_mem (grown_set _ _ _ _)) (fun _ _ e => .inl e)⟩
theorem RGiveW.c (h : RGiveW w0 w base gm L b n g d Mx) : w.cell? ⟨g, 0, none⟩ = some (.slice (some ⟨gm, 0, none⟩) L L) ∧ w.cell? ⟨g, 1, none⟩ = some (.int .i64 (b : Int)) ∧ w.cell? ⟨g, 2, none⟩ = some (.int .i64 (n : Int)) := ⟨h.dev.tab.cell 0, h.dev.tab.cell 1, h.dev.tab.cell 2⟩
theorem RGiveW.c4 (h : RGiveW w0 w base gm L b n g d Mx) {x : Nat} (e : d.put = x) : w.cell? ⟨g, 4, none⟩ = some (.int .i64 (x : Int)) := by subst e; exact h.dev.tab.cell 4
end
theorem rgiveM_eq (n b put pm pf pg pu pt1 head len : Nat) (M M1 M2 : List UInt8) (h1 : put % n = pm ∧ b + (18 * n + 4 + 4 + 8 * pm) = pf ∧ pf + 4 = pg ∧ b + (18 * n + 4 + 2) = pu) (h2 : (put + 1) % 65536 = pt1) (e1 : putAt M pf 4 head = M1) (e2 : putAt M1 pg 4 len = M2) : putAt M2 pu 2 pt1 = vGiveM M b n put head len := by
  obtain ⟨rfl, rfl, rfl, rfl⟩ := h1
  subst h2 e1 e2
  unfold vGiveM
  rw [show b + (18 * n + 4 + 4 + 8 * (put % n) + 4) = b + (18 * n + 4 + 4 + 8 * (put % n)) + 4 by omega]
def RGivePost (base gm L b n g : Nat) (d : VD) (M : List UInt8) (head len : Nat) (w : World) (e : Ending) (w' : World) : Prop :=
  e = .returned (.int .i64 0) ∧ RDevAt w' base gm L b n g d.give ∧ MemAt w' gm (vGiveM M b n d.put head len) ∧ Frame (fun k => k = g ∨ k = gm) w w'
set_option maxHeartbeats 4000000 in
theorem rgive_at (base gm L b n g head len : Nat) (d : VD) (M : List UInt8) (w : World) (h : RDevAt w base gm L b n g d) (hm : MemAt w gm M) (hM : M.length = L) (hL : L ≤ 1000000) (hok : okN (n : Int) = true) (hb : b + vSize n ≤ L) (hh : head < n) (hl : len < 4294967296) :
    Calls Try.prog 49 #[.pointer (some ⟨g, 0, none⟩), .int .i64 (head : Int), .int .i64 (len : Int)] w (RGivePost base gm L b n g d M head len w) := by
  have hn := okN_le hok
  have HA := hid (show RGiveW w w base gm L b n g d M from ⟨h, hm, hM, blk_ne h.tab hm (by decide), Frame.refl _ _⟩)
  obtain ⟨pt, hpt⟩ : ∃ x, d.put = x := ⟨_, rfl⟩
  have Hpt := hid hpt
  have hptl : pt < 65536 := by rw [← hpt]; exact h.put
  obtain ⟨pm, hpm⟩ : ∃ x : Nat, pt % n = x := ⟨_, rfl⟩
  have hpmn : pm < n := by rw [← hpm]; exact Nat.mod_lt _ (by omega)
  have hpmI : (pt : Int) % (n : Int) = (pm : Int) := by rw [← hpm]; exact (Int.natCast_emod _ _).symm
  have hpmT : Int.tmod (pt : Int) (n : Int) = (pm : Int) := by rw [Int.tmod_eq_emod_of_nonneg (by omega)]; exact hpmI
  obtain ⟨ri, hri⟩ : ∃ x : Nat, b + (18 * n + 4) = x := ⟨_, rfl⟩
  have hriI : (b : Int) + 18 * (n : Int) + 4 = (ri : Int) := by omega
  obtain ⟨pf, hpf⟩ : ∃ x : Nat, b + (18 * n + 4 + 4 + 8 * pm) = x := ⟨_, rfl⟩
  have hpfI : (ri : Int) + 4 + 8 * (pm : Int) = (pf : Int) := by omega
  obtain ⟨pg, hpg⟩ : ∃ x : Nat, pf + 4 = x := ⟨_, rfl⟩
  have hpgI : (pf : Int) + 4 = (pg : Int) := by omega
  obtain ⟨pu, hpu⟩ : ∃ x : Nat, b + (18 * n + 4 + 2) = x := ⟨_, rfl⟩
  have hpuI : (ri : Int) + 2 = (pu : Int) := by omega
  have hbnd : pg + 4 ≤ L ∧ pu + 2 ≤ L ∧ pf + 4 ≤ L ∧ ri + 4 ≤ L := by unfold vSize at hb; omega
  have Hbnd := hid hbnd
  have hn0N : ¬ n = 0 := by omega
  have t1 : ¬ (head : Int) < 0 := by omega
  have t2 : ¬ (n : Int) ≤ (head : Int) := by omega
  have t3 : ¬ (len : Int) < 0 := by omega
  have t4 : ¬ (4294967296 : Int) ≤ (len : Int) := by omega
  have hpfL : pf ≤ 1000000 := by omega
  have hriL : ri ≤ 1000000 := by omega
  have hbL : b ≤ 1000000 := by omega
  have hwpu : IntKind.i64.wrap (pu : Int) = (pu : Int) := IntWalk.i64_in _ (by omega)
  obtain ⟨pt1, hpt1⟩ : ∃ x, (pt + 1) % 65536 = x := ⟨_, rfl⟩
  have hpt1l : pt1 < 65536 := by omega
  have hpt1I : ((pt : Int) + 1) % 65536 = (pt1 : Int) := by omega
  have hpt1T : Int.tmod ((pt : Int) + 1) 65536 = (pt1 : Int) := by rw [Int.tmod_eq_emod_of_nonneg (by omega)]; exact hpt1I
  have Hpa := hid (show d.put % n = pm ∧ b + (18 * n + 4 + 4 + 8 * pm) = pf ∧ pf + 4 = pg ∧ b + (18 * n + 4 + 2) = pu from ⟨by rw [hpt]; exact hpm, hpf, hpg, hpu⟩)
  have Hpt1 := hid (show (d.put + 1) % 65536 = pt1 by rw [hpt]; exact hpt1)
  obtain ⟨c0, c1, c2⟩ := HA.out.c
  have c4 := HA.out.c4 Hpt.out
  have hhn : head < 65536 := by omega
  have HL := hid hL
  clear h hm hM hok hb hpm hpf hpg hpu hpt hpt1 hbnd hri
  go_enter Try.func49, Try.ntmps49
  go_upto_region 3 with fail
  go_quiet (fail)
  revert nq
  intro q1
  have A1 := hid (HA.out.keep (below_drewN (Below.refl _ _) q1))
  clear HA c0 c1 c2 c4
  generalize w.drewN q1 = w1 at *
  obtain ⟨c0, c1, c2⟩ := A1.out.c
  have c4 := A1.out.c4 Hpt.out
  go_upto_region 4 with fail
  go_quiet (fail)
  revert nq
  intro q2
  have A2 := hid (A1.out.keep (below_drewN (Below.refl _ _) q2))
  clear A1 c0 c1 c2 c4
  generalize w1.drewN q2 = w2 at *
  obtain ⟨c0, c1, c2⟩ := A2.out.c
  go_upto_region 6 with (go_at_call 57; (with_reducible refine (rset4_at gm L M pf head _ A2.out.len HL.out A2.out.mem (by have := Hbnd.out; omega) (by omega)).mono ?_); rintro e w3 ⟨⟨u, rfl⟩, m3, f3⟩; have A3 := hid (A2.out.set_ f3 m3 (by rw [putAt_len (by rw [A2.out.len]; have := Hbnd.out; omega), A2.out.len])); clear m3 f3)
  obtain ⟨M1, hM1⟩ : ∃ x, putAt M pf 4 head = x := ⟨_, rfl⟩
  rw [hM1] at A3
  have HM1 := hid hM1
  clear hM1 A2 c0 c1 c2
  obtain ⟨c0, c1, c2⟩ := A3.out.c
  go_upto_region 7 with (go_at_call 57; (with_reducible refine (rset4_at gm L M1 pg len _ A3.out.len HL.out A3.out.mem (by have := Hbnd.out; omega) (by omega)).mono ?_); rintro e w4 ⟨⟨u, rfl⟩, m4, f4⟩; have A4 := hid (A3.out.set_ f4 m4 (by rw [putAt_len (by rw [A3.out.len]; have := Hbnd.out; omega), A3.out.len])); clear m4 f4)
  obtain ⟨M2, hM2⟩ : ∃ x, putAt M1 pg 4 len = x := ⟨_, rfl⟩
  rw [hM2] at A4
  have HM2 := hid hM2
  clear hM2 A3 c0 c1 c2
  have c4 := A4.out.c4 Hpt.out
  have z4 := A4.out.dev.tab.frozen 4
  go_upto_region 8 with fail
  have A5 := hid (A4.out.put_ pt1 hpt1l)
  clear A4 c4 z4
  generalize w4.setCell ⟨g, 4, none⟩ (.int .i64 (pt1 : Int)) = w5 at *
  obtain ⟨c0, c1, c2⟩ := A5.out.c
  have c4 := A5.out.c4 rfl
  have HS := hid (fun wy (y : Below w5.heap.size w5 wy) => rset2_at gm L M2 pu pt1 wy (A5.out.keep y).len HL.out (A5.out.keep y).mem (by have := Hbnd.out; omega) (by omega))
  go_region_held3 (fun wy => wy.cell? ⟨g, 0, none⟩ = some (.slice (some ⟨gm, 0, none⟩) L L) ∧ wy.cell? ⟨g, 4, none⟩ = some (.int .i64 (pt1 : Int))) (first | exact ⟨c0, c4⟩ | exact ⟨cell_below (below_drew _) c0, cell_below (below_drew _) c4⟩ | exact ⟨(A6.out.c).1, A6.out.c4 rfl⟩) (first
    | (go_at_call 57; (with_reducible refine (HS.out _ (by first | exact Below.refl _ _ | exact below_drew _)).mono ?_); rintro e w6 ⟨⟨u, rfl⟩, m6, f6⟩; have A6 := hid ((A5.out.keep (below_drew _)).set_ f6 m6 (by rw [putAt_len (by rw [A5.out.len]; have := Hbnd.out; omega), A5.out.len])); clear m6 f6)
    | fail)
  all_goals
    go_wp2_with fail
    go_ret
    have hM := rgiveM_eq n b d.put pm pf pg pu pt1 head len M M1 M2 Hpa.out Hpt1.out HM1.out HM2.out
    have h5 := A6.out
    rw [hM] at h5
    have eq : d.give = { d with put := pt1 } := by unfold VD.give; rw [Hpt1.out]
    exact ⟨rfl, by rw [eq]; exact h5.dev, h5.mem, h5.fr⟩
end Go.Proofs.Ytgiegiobigdplaa
