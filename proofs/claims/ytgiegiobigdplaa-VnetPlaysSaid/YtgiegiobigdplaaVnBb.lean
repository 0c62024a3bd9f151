/- The document's device takes a chain. -/
import Derived.Test.YtgiegiobigdplaaVnBa
namespace Go.Proofs.Ytgiegiobigdplaa
open Go Go.RowKit
attribute [local go_sem ↓] Go.wp_at_zero Go.wp_at_succ
set_option maxRecDepth 100000
set_option linter.unusedSimpArgs false
set_option linter.unusedVariables false

theorem i64_and_small (a b : Nat) (ha : a < 65536) (hb : b < 65536) : bits .and .i64 (a : Int) (b : Int) = ((a &&& b : Nat) : Int) := by
  have hx : a &&& b < 2 ^ 16 := Nat.and_lt_two_pow _ (by omega)
  show IntKind.i64.wrap ((BitVec.ofInt 64 (a : Int) &&& BitVec.ofInt 64 (b : Int)).toNat : Int) = _
  rw [BitVec.toNat_and, ofInt_u64 a (by omega), ofInt_u64 b (by omega)]
  exact IntWalk.i64_in _ (by omega)
theorem iflag_two (x : Nat) (h : x < 65536) : (bits .and .i64 (x : Int) 2 != 0) = (x / 2 % 2 == 1) := by
  have h1 := i64_and_small x 2 h (by decide)
  rw [show bits .and .i64 (x : Int) 2 = ((x &&& 2 : Nat) : Int) from h1, and_two]
  have h2 : x / 2 % 2 = 0 ∨ x / 2 % 2 = 1 := by omega
  rcases h2 with h2 | h2 <;> rw [h2] <;> rfl
theorem iflag_one (x : Nat) (h : x < 65536) : (bits .and .i64 (x : Int) 1 == 0) = decide (x % 2 = 0) := by
  have h1 := i64_and_small x 1 h (by decide)
  rw [show bits .and .i64 (x : Int) 1 = ((x &&& 1 : Nat) : Int) from h1, Nat.and_one_is_mod]
  have h2 : x % 2 = 0 ∨ x % 2 = 1 := by omega
  rcases h2 with h2 | h2 <;> rw [h2] <;> rfl
theorem rnum8_at (gm L : Nat) (M : List UInt8) (p : Nat) (w : World) (hL : M.length = L) (hL1 : L ≤ 1000000) (hm : MemAt w gm M) (hp : p + 8 ≤ L) :
    Calls Try.prog 63 #[.slice (some ⟨gm, 0, none⟩) L L, .int .i64 (p : Int), .int .i64 8] w fun e w' => e = .returned (.tuple #[.int .u64 (leAt M p 8 : Int), .int .i64 0]) ∧ w' = w := by
  have hB := hm.bs (off := 0) (n := L) (cap := L) (by omega) (Nat.le_refl _) (by simp only [maxLen]; omega)
  have hC := cut_mem M 0 L p 8 rfl (by omega) (by omega)
  have h0 := rle_any (.slice (some ⟨gm, 0, none⟩) L L) ((M.drop 0).take L) (p : Int) ((8 : Nat) : Int) w hB (by omega) (by omega)
  rw [hC, Nat.zero_add] at h0
  exact h0.mono (fun e w' h => ⟨h.1, h.2.symm⟩)
def RTakePost (base gm L b n g : Nat) (d : VD) (r : Option (Option (Nat × List VBuf) × VD)) (w : World) (e : Ending) (w' : World) : Prop :=
  (match r with
    | none => e = .returned (.tuple #[.int .i64 0, .slice none 0 0, .int .i64 2]) ∧ RDevAt w' base gm L b n g d
    | some (none, d') => e = .returned (.tuple #[.int .i64 0, .slice none 0 0, .int .i64 15]) ∧ RDevAt w' base gm L b n g d'
    | some (some (h, l), d') => ∃ v, e = .returned (.tuple #[.int .i64 (h : Int), v, .int .i64 0]) ∧ w'.ownsRow w.heap.size 93 3 v l.length (bufRow l) ∧ RDevAt w' base gm L b n g d')
  ∧ Frame (fun k => k = g) w w'
set_option maxHeartbeats 4000000 in
theorem rtake_at (base gm L b n g : Nat) (d : VD) (M : List UInt8) (w : World) (h : RDevAt w base gm L b n g d) (hm : MemAt w gm M) (hM : M.length = L) (hL : L ≤ 1000000) (hok : okN (n : Int) = true) (hb : b + vSize n ≤ L) :
    Calls Try.prog 47 #[.pointer (some ⟨g, 0, none⟩)] w (RTakePost base gm L b n g d (vTake M b n d) w) := by
  have hn := okN_le hok
  have HD := hid h
  have HM := hid hm
  have Hlt := hid (show g < w.heap.size ∧ gm < w.heap.size from ⟨h.tab.lt, Blk.lt hm⟩)
  have Hgm := hid (show g ≠ gm from blk_ne h.tab hm (by decide))
  have HL := hid (And.intro hM hL)
  have hbS : b + (8 + 26 * n) ≤ L := hb
  obtain ⟨gt, hgt⟩ : ∃ x, d.got = x := ⟨_, rfl⟩
  have Hgt := hid hgt
  have hgl : gt < 65536 := by rw [← hgt]; exact h.got
  obtain ⟨ri, hri⟩ : ∃ x : Nat, b + 16 * n = x := ⟨_, rfl⟩
  have hriI : (b : Int) + 16 * (n : Int) = (ri : Int) := by omega
  obtain ⟨pu, hpu⟩ : ∃ x : Nat, b + (16 * n + 2) = x := ⟨_, rfl⟩
  have hpuI : (ri : Int) + 2 = (pu : Int) := by omega
  have hpuL : pu + 2 ≤ L := by omega
  have hriL : ri ≤ 1000000 := by omega
  have hbL : b ≤ 1000000 := by omega
  have hw1 : IntKind.i64.wrap (pu : Int) = (pu : Int) := IntWalk.i64_in _ (by omega)
  obtain ⟨ui, hui⟩ : ∃ x : Nat, leAt M pu 2 = x := ⟨_, rfl⟩
  have huil : ui < 65536 := by rw [← hui]; exact leAt2 _ _
  have c0 : w.cell? ⟨g, 0, none⟩ = some (.slice (some ⟨gm, 0, none⟩) L L) := h.tab.cell 0
  have c1 : w.cell? ⟨g, 1, none⟩ = some (.int .i64 (b : Int)) := h.tab.cell 1
  have c2 : w.cell? ⟨g, 2, none⟩ = some (.int .i64 (n : Int)) := h.tab.cell 2
  have Hu := hid (show leAt M (b + (16 * n + 2)) 2 = ui by rw [hpu]; exact hui)
  have Hui := hid hui
  clear h hm hM hok hb hpu hui
  go_enter Try.func47, Try.ntmps47
  go_upto_region 1 with fail
  go_quiet (fail)
  revert nq
  intro q0
  have D0 := hid (HD.out.drewN q0)
  have M0 := hid (HM.out.keep (below_drewN (Below.refl _ _) q0))
  have F0 := hid (Below.frameF (below_drewN (Below.refl w.heap.size w) q0) (fun k => k = g))
  clear HD HM c0 c1 c2
  have Hz0 := hid (show w.heap.size = (w.drewN q0).heap.size from rfl)
  generalize w.drewN q0 = w0 at *
  have c0 : w0.cell? ⟨g, 0, none⟩ = some (.slice (some ⟨gm, 0, none⟩) L L) := D0.out.tab.cell 0
  have c3 : w0.cell? ⟨g, 3, none⟩ = some (.int .i64 (gt : Int)) := (D0.out.tab.cell 3).trans (congrArg (fun z : Nat => some (Value.int .i64 (z : Int))) Hgt.out)
  have HG := hid (fun j => quiet0 (rle2_at gm L M pu (w0.drewN j) HL.out.1 HL.out.2 (M0.out.keep (below_drewN (Below.refl _ _) j)) hpuL))
  rw [Hui.out] at HG
  go_upto_region 2 with fail
  by_cases he : ui = gt
  · have Hr := hid (show vTake M b n d = none by unfold vTake; rw [if_pos (by rw [Hu.out, Hgt.out]; exact he)])
    have hb1 : ((ui : Int) == (gt : Int)) = true := by simp [he]
    clear he
    go_quiet ((go_at_call 55; (with_reducible exact Calls.quiet_of (HG.out _))))
    go_wp2_with fail
    go_ret3
    rw [Hr.out]
    exact ⟨⟨rfl, D0.out.drewN _⟩, F0.out.trans (Below.frameF (below_drewN (Below.refl _ _) _) _) (fun _ _ h => h)⟩
  · have hb1 : ((ui : Int) == (gt : Int)) = false := by simp; omega
    go_quiet ((go_at_call 55; (with_reducible exact Calls.quiet_of (HG.out _))))
    revert nq
    intro q1
    have D1 := hid (D0.out.drewN q1)
    have M1 := hid (M0.out.keep (below_drewN (Below.refl _ _) q1))
    have F1 := hid (F0.out.trans (Below.frameF (below_drewN (Below.refl w0.heap.size w0) q1) (fun k => k = g)) (fun _ _ h => h))
    clear HG D0 M0 F0 c0 c3
    generalize w0.drewN q1 = w1 at *
    obtain ⟨pm, hpm⟩ : ∃ x : Nat, gt % n = x := ⟨_, rfl⟩
    have hpmn : pm < n := by rw [← hpm]; exact Nat.mod_lt _ (by omega)
    have hpmI : (gt : Int) % (n : Int) = (pm : Int) := by rw [← hpm]; exact (Int.natCast_emod _ _).symm
    have hpmT : Int.tmod (gt : Int) (n : Int) = (pm : Int) := by rw [Int.tmod_eq_emod_of_nonneg (by omega)]; exact hpmI
    obtain ⟨pf, hpf⟩ : ∃ x : Nat, b + (16 * n + 4 + 2 * pm) = x := ⟨_, rfl⟩
    have hpfI : (ri : Int) + 4 + 2 * (pm : Int) = (pf : Int) := by omega
    have hpfs : pf + 2 ≤ L := by omega
    have hw5 : IntKind.i64.wrap (pf : Int) = (pf : Int) := IntWalk.i64_in _ (by omega)
    have hn0N : ¬ n = 0 := by omega
    obtain ⟨hd, hhd⟩ : ∃ x, leAt M pf 2 = x := ⟨_, rfl⟩
    have hhdl : hd < 65536 := by rw [← hhd]; exact leAt2 _ _
    have c0 : w1.cell? ⟨g, 0, none⟩ = some (.slice (some ⟨gm, 0, none⟩) L L) := D1.out.tab.cell 0
    have c2 : w1.cell? ⟨g, 2, none⟩ = some (.int .i64 (n : Int)) := D1.out.tab.cell 2
    have c3 : w1.cell? ⟨g, 3, none⟩ = some (.int .i64 (gt : Int)) := (D1.out.tab.cell 3).trans (congrArg (fun z : Nat => some (Value.int .i64 (z : Int))) Hgt.out)
    have HG := hid (fun j => quiet0 (rle2_at gm L M pf (w1.drewN j) HL.out.1 HL.out.2 (M1.out.keep (below_drewN (Below.refl _ _) j)) hpfs))
    rw [hhd] at HG
    obtain ⟨gt1, hgt1⟩ : ∃ x, (gt + 1) % 65536 = x := ⟨_, rfl⟩
    have hgt1l : gt1 < 65536 := by omega
    have hgt1I : ((gt : Int) + 1) % 65536 = (gt1 : Int) := by omega
    have hgt1T : Int.tmod ((gt : Int) + 1) 65536 = (gt1 : Int) := by rw [Int.tmod_eq_emod_of_nonneg (by omega)]; exact hgt1I
    have Hv := hid (show vTake M b n d = some ((vChain M b n (n + 1) hd []).map fun l => (hd, l), { d with got := gt1 }) by
      unfold vTake
      rw [if_neg (by rw [Hu.out, Hgt.out]; exact he), Hgt.out, hpm, hpf, hhd, hgt1])
    clear hpm hpf hhd he hgt1
    go_upto_region 4 with fail
    go_quiet ((go_at_call 55; (with_reducible exact Calls.quiet_of (HG.out _))))
    revert nq
    intro q2
    have D2 := hid (D1.out.drewN q2)
    have M2 := hid (M1.out.keep (below_drewN (Below.refl _ _) q2))
    have F2 := hid (F1.out.trans (Below.frameF (below_drewN (Below.refl w1.heap.size w1) q2) (fun k => k = g)) (fun _ _ h => h))
    clear HG D1 M1 F1 c0 c2 c3
    generalize w1.drewN q2 = w2 at *
    have c3 : w2.cell? ⟨g, 3, none⟩ = some (.int .i64 (gt : Int)) := (D2.out.tab.cell 3).trans (congrArg (fun z : Nat => some (Value.int .i64 (z : Int))) Hgt.out)
    have z3 := D2.out.tab.frozen 3
    go_upto_region 6 with fail
    have D3 := hid (D2.out.got_ gt1 hgt1l)
    have f3 := frame_mem (grown_set w2 g 3 (.int .i64 (gt1 : Int)))
    have M3 := hid (M2.out.frame f3 (fun e => Hgm.out e.symm))
    have F3 := hid (F2.out.trans f3 (fun _ _ h => h))
    clear D2 M2 F2 c3 z3 f3
    generalize w2.setCell ⟨g, 3, none⟩ (.int .i64 (gt1 : Int)) = w3 at *
    obtain ⟨R, hR⟩ : ∃ x, vChain M b n (n + 1) hd [] = x := ⟨_, rfl⟩
    rw [hR] at Hv
    have HR := hid hR
    have Hz3 := hid (show w.heap.size ≤ w3.heap.size from F3.out.size)
    clear hR
    go_wp2_with fail
    go_loopg [7, 8, 9, 10, 11, 12] (n + 1) (fun gk s7 s8 _ _ _ _ wx => ∃ (i : Nat) (acc : List VBuf) (v : Value), s7 = v ∧ s8 = .int .i64 (i : Int) ∧ i < 65536 ∧ acc.length + gk = n + 1 ∧ acc.length ≤ n ∧ vChain M b n gk i acc = R ∧ wx.ownsRow w.heap.size 93 3 v acc.length (bufRow acc) ∧ Below w.heap.size w3 wx)
    case atStart => exact ⟨hd, [], _, rfl, rfl, hhdl, by simp, Nat.zero_le _, HR.out, World.ownsRow_nil _ _ _ _, Below.refl _ _⟩
    case round =>
      obtain ⟨i, acc, v, rfl, rfl, hi, hgk, hal, hch, hown, hbx⟩ := hrel
      have D4 := hid (D3.out.below hbx Hlt.out.1)
      have M4 := hid (show MemAt wr gm M from Blk.below M3.out hbx Hlt.out.2)
      have F4 := hid (frame_below F3.out hbx)
      obtain ⟨_, A, c, rfl, _, _, _⟩ := RowN.of_own hown
      have Hown := hid hown
      have Hch := hid hch
      have Hbx := hid hbx
      obtain ⟨an, han⟩ : ∃ x, acc.length = x := ⟨_, rfl⟩
      rw [han] at Hown hgk hal
      have Han := hid han
      rw [han]
      have c0 : wr.cell? ⟨g, 0, none⟩ = some (.slice (some ⟨gm, 0, none⟩) L L) := D4.out.tab.cell 0
      have c1 : wr.cell? ⟨g, 1, none⟩ = some (.int .i64 (b : Int)) := D4.out.tab.cell 1
      have c2 : wr.cell? ⟨g, 2, none⟩ = some (.int .i64 (n : Int)) := D4.out.tab.cell 2
      clear hown hch hbx han
      generalize wr = w4 at *
      by_cases hbad : n ≤ i ∨ an = n
      · have hRn : R = none := by
          rw [← Hch.out]
          cases gk with
          | zero => rfl
          | succ k => unfold vChain; rw [if_pos (by rw [Han.out]; exact hbad)]
        have Hr := hid (show vTake M b n d = some (none, { d with got := gt1 }) by rw [Hv.out, hRn]; rfl)
        clear hRn
        have hcs : (n : Int) ≤ (i : Int) ∨ ¬ (n : Int) ≤ (i : Int) ∧ (n : Int) ≤ (an : Int) := by omega
        clear hbad
        rcases hcs with h1 | ⟨h1, h2⟩
        all_goals
          go_wp2_with fail
          go_ret3
          rw [Hr.out]
          exact ⟨⟨rfl, D4.out⟩, F4.out⟩
      have Hmv := hid (show an + 1 ≤ n by omega)
      have hni : ¬ (n : Int) ≤ (i : Int) := by omega
      have hne : ¬ (n : Int) ≤ (an : Int) := by omega
      obtain ⟨k, rfl⟩ : ∃ k, gk = k + 1 := ⟨gk - 1, by omega⟩
      obtain ⟨p, hp⟩ : ∃ p : Nat, b + 16 * i = p := ⟨_, rfl⟩
      have hpI : (b : Int) + 16 * (i : Int) = (p : Int) := by omega
      obtain ⟨p8, hp8⟩ : ∃ x : Nat, p + 8 = x := ⟨_, rfl⟩
      have hp8I : (p : Int) + 8 = (p8 : Int) := by omega
      obtain ⟨p12, hp12⟩ : ∃ x : Nat, p + 12 = x := ⟨_, rfl⟩
      have hp12I : (p : Int) + 12 = (p12 : Int) := by omega
      obtain ⟨p14, hp14⟩ : ∃ x : Nat, p + 14 = x := ⟨_, rfl⟩
      have hp14I : (p : Int) + 14 = (p14 : Int) := by omega
      have hbnd : p14 + 2 ≤ L := by omega
      have Hbnd := hid hbnd
      obtain ⟨ad, had⟩ : ∃ x, leAt M p 8 = x := ⟨_, rfl⟩
      have hadl : ad < 18446744073709551616 := by rw [← had]; exact leAt8 _ _
      obtain ⟨fl, hfl⟩ : ∃ x, leAt M p12 2 = x := ⟨_, rfl⟩
      have hfll : fl < 65536 := by rw [← hfl]; exact leAt2 _ _
      obtain ⟨ln, hln⟩ : ∃ x, leAt M p8 4 = x := ⟨_, rfl⟩
      have hlnl : ln < 4294967296 := by rw [← hln]; exact leAt4 _ _
      obtain ⟨nx, hnx⟩ : ∃ x, leAt M p14 2 = x := ⟨_, rfl⟩
      have hnxl : nx < 65536 := by rw [← hnx]; exact leAt2 _ _
      have Hstep := hid (show R = if ad > 4611686018427387904 then none else if fl % 2 = 0 then some (acc ++ [⟨ad, ln, fl / 2 % 2 == 1⟩]) else vChain M b n k nx (acc ++ [⟨ad, ln, fl / 2 % 2 == 1⟩]) by
        rw [← Hch.out]
        rw [vChain_succ, if_neg (by rw [Han.out]; exact hbad), hp, show b + (16 * i + 8) = p8 by omega, show b + (16 * i + 12) = p12 by omega, show b + (16 * i + 14) = p14 by omega, had, hfl, hln, hnx])
      have HG8 := hid (rnum8_at gm L M p w4 HL.out.1 HL.out.2 M4.out (by omega))
      have HG12 := hid (rle2_at gm L M p12 w4 HL.out.1 HL.out.2 M4.out (by omega))
      have HG4 := hid (rle4_at gm L M p8 w4 HL.out.1 HL.out.2 M4.out (by omega))
      rw [had] at HG8
      rw [hfl] at HG12
      rw [hln] at HG4
      have Hnx := hid hnx
      have hf2 := iflag_two fl hfll
      have hf1 := iflag_one fl hfll
      have hkb : p14 ≤ 1000000 := by omega
      clear hp hp8 hp12 hp14 hbnd had hfl hln hnx hbad Hch
      by_cases hbig : ad > 4611686018427387904
      · have hbigI : (ad : Int) > 4611686018427387904 := by omega
        have Hr := hid (show vTake M b n d = some (none, { d with got := gt1 }) by rw [Hv.out, Hstep.out, if_pos hbig]; rfl)
        clear hbig
        go_wp2_with (first
          | (go_at_call 63; (with_reducible refine HG8.out.mono ?_); rintro e w' ⟨rfl, hw⟩; have hw := hw.symm; subst hw)
          | (go_at_call 55; (with_reducible refine HG12.out.mono ?_); rintro e w' ⟨rfl, hw⟩; have hw := hw.symm; subst hw))
        go_ret3
        rw [Hr.out]
        exact ⟨⟨rfl, D4.out⟩, F4.out⟩
      have hbigI : ¬ (ad : Int) > 4611686018427387904 := by omega
      obtain ⟨wb, hwb⟩ : ∃ x, (fl / 2 % 2 == 1) = x := ⟨_, rfl⟩
      rw [hwb] at hf2
      have Hwb := hid hwb
      have hau : IntKind.i64.wrap (ad : Int) = (ad : Int) := IntWalk.i64_in _ (by omega)
      clear hwb
      go_upto_region 16 with (first
        | (go_at_call 63; (with_reducible refine HG8.out.mono ?_); rintro e w' ⟨rfl, hw⟩; have hw := hw.symm; subst hw)
        | (go_at_call 55; (with_reducible refine HG12.out.mono ?_); rintro e w' ⟨rfl, hw⟩; have hw := hw.symm; subst hw)
        | (go_at_call 55; (with_reducible refine HG4.out.mono ?_); rintro e w' ⟨rfl, hw⟩; have hw := hw.symm; subst hw)
        | ((with_reducible show wpList _ _ _ (Oper.mk (some 118) _ _ _ _ _ :: _) _ _); refine wpList_app _ rfl _ _ 94 rfl w.heap.size 93 (.agg #[.int .i64 0, .int .i64 0, .bool false]) 3 24 bufok (.slice A an c) an (bufRow acc) rfl (own_below Hown.out (below_alloc _ _)) (.slice (some ⟨w4.heap.size, 0, none⟩) 1 1) 1 [.int .i64 (ad : Int), .int .i64 (ln : Int), .bool wb] rfl (rowS_lit 3 #[.int .i64 (ad : Int), .int .i64 (ln : Int), .bool wb] 1 _ rfl (by simp) (by simp [maxLen])) (by simp [Value.oneCell']) (by omega) (by simp only [maxLen]; omega) (by have := Hz3.out; have := Hbx.out.size; simp; omega) ?_; intro v9 w9 hown9 hg9 hat9; obtain ⟨_, A9, c9', rfl, _, _, _⟩ := RowN.of_own hown9; have Hown9 := hid hown9; have Hb9 := hid (show Below w.heap.size w3 w9 from (Hbx.out.trans ((below_alloc w4 (.cells #[.int .i64 (ad : Int), .int .i64 (ln : Int), .bool wb] 93)).mono (by have := Hz3.out; have := Hbx.out.size; omega))).trans (grown_below (own_below Hown.out (below_alloc _ _)) (by have := Hz3.out; have := Hbx.out.size; simp; omega) hg9)); clear hown9 hg9 hat9))
      have D9 := hid (D3.out.below Hb9.out Hlt.out.1)
      have M9 := hid (show MemAt w9 gm M from Blk.below M3.out Hb9.out Hlt.out.2)
      have F9 := hid (frame_below F3.out Hb9.out)
      obtain ⟨acc', hacc⟩ : ∃ x, acc ++ [(⟨ad, ln, fl / 2 % 2 == 1⟩ : VBuf)] = x := ⟨_, rfl⟩
      have Hrow := hid (show bufRow acc' = bufRow acc ++ [.int .i64 (ad : Int), .int .i64 (ln : Int), .bool wb] by rw [← hacc, bufRow_snoc, ← Hwb.out]; rfl)
      have Hacl := hid (show acc'.length = an + 1 by rw [← hacc, List.length_append, Han.out]; rfl)
      rw [hacc, if_neg hbig] at Hstep
      clear D4 M4 F4 Hown Hbx HG8 HG12 HG4 hacc hbig c0 c1 c2
      by_cases hend : fl % 2 = 0
      · have hf1b : (bits .and .i64 (fl : Int) 1 == 0) = true := by rw [hf1, hend]; rfl
        clear hf1
        have Hr := hid (show vTake M b n d = some (some (hd, acc'), { d with got := gt1 }) by rw [Hv.out, Hstep.out, if_pos hend]; rfl)
        clear hend
        go_wp2_with fail
        go_ret3
        rw [Hr.out]
        exact ⟨⟨_, rfl, by rw [Hacl.out, Hrow.out]; exact Hown9.out, D9.out⟩, F9.out⟩
      · have hf1b : (bits .and .i64 (fl : Int) 1 == 0) = false := by rw [hf1]; simp [hend]
        clear hf1
        have c0 : w9.cell? ⟨g, 0, none⟩ = some (.slice (some ⟨gm, 0, none⟩) L L) := D9.out.tab.cell 0
        have HG14 := hid (rle2_at gm L M p14 w9 HL.out.1 HL.out.2 M9.out Hbnd.out)
        rw [Hnx.out] at HG14
        rw [if_neg hend] at Hstep
        have hmv : an + 1 + k = n + 1 ∧ an + 1 ≤ n := ⟨by omega, Hmv.out⟩
        clear hend
        go_wp2_with (go_at_call 55; (with_reducible refine HG14.out.mono ?_); rintro e w' ⟨rfl, hw⟩; have hw := hw.symm; subst hw)
        go_roundg k
        case measure => omega
        case rel => exact ⟨nx, acc', _, rfl, rfl, hnxl, by rw [Hacl.out]; exact hmv.1, by rw [Hacl.out]; exact hmv.2, Hstep.out.symm, by rw [Hacl.out, Hrow.out]; exact Hown9.out, Hb9.out⟩
end Go.Proofs.Ytgiegiobigdplaa
