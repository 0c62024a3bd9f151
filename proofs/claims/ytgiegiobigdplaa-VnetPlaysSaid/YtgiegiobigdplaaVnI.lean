/- The program's device takes a chain. -/
import Derived.Test.YtgiegiobigdplaaVnH
import Derived.Laws.BitsAllLaws
namespace Go.Proofs.Ytgiegiobigdplaa
open Go Go.RowKit
attribute [local go_sem ↓] Go.wp_at_zero Go.wp_at_succ
set_option maxRecDepth 100000
set_option linter.unusedSimpArgs false

theorem and_two (x : Nat) : x &&& 2 = 2 * (x / 2 % 2) := by
  have h1 : (x &&& 2) % 2 ^ 2 = (x % 2 ^ 2) &&& (2 % 2 ^ 2) := Nat.and_mod_two_pow
  have h2 : x &&& 2 ≤ 2 := Nat.and_le_right
  have h3 : (x &&& 2) % 2 ^ 2 = x &&& 2 := Nat.mod_eq_of_lt (by omega)
  rw [← h3, h1]
  have h4 : x % 2 ^ 2 = 0 ∨ x % 2 ^ 2 = 1 ∨ x % 2 ^ 2 = 2 ∨ x % 2 ^ 2 = 3 := by omega
  have h5 : x / 2 % 2 = (x % 2 ^ 2) / 2 := by omega
  rw [h5]
  rcases h4 with h | h | h | h <;> rw [h] <;> decide
theorem flag_two (x : Nat) (h : x < 65536) : (bits .and .u64 (x : Int) 2 != 0) = (x / 2 % 2 == 1) := by
  have h1 := u64_and_nat x 2 (by omega) (by decide)
  rw [show bits .and .u64 (x : Int) 2 = ((x &&& 2 : Nat) : Int) from h1, and_two]
  have h2 : x / 2 % 2 = 0 ∨ x / 2 % 2 = 1 := by omega
  rcases h2 with h2 | h2 <;> rw [h2] <;> rfl
theorem flag_one (x : Nat) (h : x < 65536) : (bits .and .u64 (x : Int) 1 == 0) = decide (x % 2 = 0) := by
  have h1 := u64_and_nat x 1 (by omega) (by decide)
  rw [show bits .and .u64 (x : Int) 1 = ((x &&& 1 : Nat) : Int) from h1, Nat.and_one_is_mod]
  have h2 : x % 2 = 0 ∨ x % 2 = 1 := by omega
  rcases h2 with h2 | h2 <;> rw [h2] <;> rfl
theorem bufinfo3 : (Try.prog.info? 93).map (fun i => (i.zero, i.size, i.bytes)) = some (some (.agg #[.int .i64 0, .int .i64 0, .bool false]), 3, 24) := by kernel_rfl
theorem bufok : ElemOk Try.prog 94 93 (.agg #[.int .i64 0, .int .i64 0, .bool false]) 3 24 := by
  obtain ⟨i, hi, hz, hsz, hby⟩ := info_parts bufinfo3
  exact ⟨Try.underlying94, ⟨i, hi, hz, hsz, hby⟩, rfl, by decide, by decide⟩
def bufCells (x : VBuf) : List Value := [.int .i64 (x.addr : Int), .int .i64 (x.len : Int), .bool x.write]
def bufRow (l : List VBuf) : List Value := l.flatMap bufCells
theorem bufRow_snoc (l : List VBuf) (x : VBuf) : bufRow (l ++ [x]) = bufRow l ++ bufCells x := by unfold bufRow; rw [List.flatMap_append]; simp
/-- what Take answers, and leaves -/
def TakePost (base gm b n g : Nat) (d : VD) (r : Option (Option (Nat × List VBuf) × VD)) (w : World) (e : Ending) (w' : World) : Prop :=
  (match r with
    | none => e = .returned (.tuple #[.int .i64 0, .slice none 0 0, .int .i64 2]) ∧ DevAt w' base gm b n g d
    | some (none, d') => e = .returned (.tuple #[.int .i64 0, .slice none 0 0, .int .i64 15]) ∧ DevAt w' base gm b n g d'
    | some (some (h, l), d') => ∃ v, e = .returned (.tuple #[.int .i64 (h : Int), v, .int .i64 0]) ∧ w'.ownsRow w.heap.size 93 3 v l.length (bufRow l) ∧ DevAt w' base gm b n g d')
  ∧ Frame (fun k => k = g) w w'
theorem DevAt.keep {w w' : World} {base gm b n g : Nat} {d : VD} (h : DevAt w base gm b n g d) (hb : Below w.heap.size w w') : DevAt w' base gm b n g d := ⟨h.tab.keep hb, h.got, h.put, h.lo⟩
theorem DevAt.drewN {w : World} {base gm b n g : Nat} {d : VD} (h : DevAt w base gm b n g d) (k : Nat) : DevAt (w.drewN k) base gm b n g d := h.keep (below_drewN (Below.refl _ _) k)
theorem DevAt.frame {F : Nat → Prop} {w w' : World} {base gm b n g : Nat} {d : VD} (h : DevAt w base gm b n g d) (hf : Frame F w w') (hn : ¬ F g) : DevAt w' base gm b n g d := ⟨hf.blk h.tab hn, h.got, h.put, h.lo⟩
theorem DevAt.got_ {w : World} {base gm b n g : Nat} {d : VD} (h : DevAt w base gm b n g d) (x : Nat) (hx : x < 65536) : DevAt (w.setCell ⟨g, 2, none⟩ (.int .i64 (x : Int))) base gm b n g { d with got := x } := ⟨h.tab.set_ 2 _, hx, h.put, h.lo⟩
theorem DevAt.put_ {w : World} {base gm b n g : Nat} {d : VD} (h : DevAt w base gm b n g d) (x : Nat) (hx : x < 65536) : DevAt (w.setCell ⟨g, 3, none⟩ (.int .i64 (x : Int))) base gm b n g { d with put := x } := ⟨h.tab.set_ 3 _, h.got, hx, h.lo⟩
theorem vChain_succ (M : List UInt8) (b n k i : Nat) (acc : List VBuf) : vChain M b n (k + 1) i acc = (if n ≤ i ∨ acc.length = n then none
    else if leAt M (b + 16 * i) 8 > 4611686018427387904 then none
    else if leAt M (b + (16 * i + 12)) 2 % 2 = 0 then some (acc ++ [⟨leAt M (b + 16 * i) 8, leAt M (b + (16 * i + 8)) 4, leAt M (b + (16 * i + 12)) 2 / 2 % 2 == 1⟩])
    else vChain M b n k (leAt M (b + (16 * i + 14)) 2) (acc ++ [⟨leAt M (b + 16 * i) 8, leAt M (b + (16 * i + 8)) 4, leAt M (b + (16 * i + 12)) 2 / 2 % 2 == 1⟩])) := rfl
theorem DevAt.below {w w' : World} {base gm b n g B : Nat} {d : VD} (h : DevAt w base gm b n g d) (hb : Below B w w') (hg : g < B) : DevAt w' base gm b n g d := ⟨h.tab.below hb hg, h.got, h.put, h.lo⟩
theorem frame_below {F : Nat → Prop} {w0 w w' : World} (h : Frame F w0 w) (hb : Below w0.heap.size w w') : Frame F w0 w' := ⟨hb.os.trans h.os, hb.tape.trans h.tape, hb.output.trans h.output, Nat.le_trans h.size hb.size, fun k hk hn => (hb.block k hk).trans (h.block k hk hn)⟩
set_option maxHeartbeats 4000000 in
theorem vtake_at (base gm b n g : Nat) (d : VD) (M : List UInt8) (w : World) (h : DevAt w base gm b n g d) (hm : MemAt w gm M) (hok : okN (n : Int) = true) (hb : b + vSize n ≤ M.length) :
    Calls Try.prog 44 #[.pointer (some ⟨g, 0, none⟩)] w (TakePost base gm b n g d (vTake M b n d) w) := by
  have hn := okN_le hok
  have HD := hid h
  have HM := hid hm
  have Hlt := hid (show g < w.heap.size ∧ gm < w.heap.size from ⟨h.tab.lt, Blk.lt hm⟩)
  have Hb := hid hb
  have Hgm := hid (show g ≠ gm from blk_ne h.tab hm (by decide))
  have HbS := hid (show vSize n ≤ 100000 by unfold vSize; omega)
  obtain ⟨pu, hpu⟩ : ∃ x : Nat, 16 * n + 2 = x := ⟨_, rfl⟩
  have hpuI : 16 * (n : Int) + 2 = (pu : Int) := by omega
  have hw1 : IntKind.i64.wrap (16 * (n : Int) + 2) = (pu : Int) := by rw [hpuI]; exact IntWalk.i64_in _ (by omega)
  obtain ⟨ui, hui⟩ : ∃ x : Nat, leAt M (b + pu) 2 = x := ⟨_, rfl⟩
  have huil : ui < 65536 := by rw [← hui]; exact leAt2 _ _
  have hw2 : IntKind.i64.wrap (ui : Int) = (ui : Int) := IntWalk.i64_in _ (by omega)
  have HAv := hid (fun j => quiet0 (vavail_at g n (w.drewN j) (by omega) (h.tab.cell 1)))
  have HG := hid (fun j => quiet0 (get2_at g gm b (vSize n) M pu (w.drewN j) (hm.keep (below_drewN (Below.refl _ _) j)) hb (by unfold vSize; omega) HbS.out (h.tab.cell 0)))
  rw [hui] at HG
  have c2 : w.cell? ⟨g, 2, none⟩ = some (.int .i64 (d.got : Int)) := h.tab.cell 2
  have Hu := hid (show leAt M (b + (16 * n + 2)) 2 = ui by rw [hpu]; exact hui)
  clear h hm hb hok hpu hui
  go_enter Try.func44, Try.ntmps44
  go_upto_region 1 with fail
  by_cases he : ui = d.got
  · have Hr := hid (show vTake M b n d = none by unfold vTake; rw [if_pos (by rw [Hu.out]; exact he)])
    have hb1 : ((ui : Int) == (d.got : Int)) = true := by simp [he]
    clear he
    go_quiet ((first | (go_at_call 59; (with_reducible exact Calls.quiet_of (HAv.out _))) | (go_at_call 58; (with_reducible exact Calls.quiet_of (HG.out _)))))
    go_wp2_with fail
    go_ret3
    rw [Hr.out]
    exact ⟨⟨rfl, HD.out.drewN _⟩, Below.frameF (below_drewN (Below.refl _ _) _) _⟩
  · have hb1 : ((ui : Int) == (d.got : Int)) = false := by simp; omega
    obtain ⟨gt, hgt⟩ : ∃ x, d.got = x := ⟨_, rfl⟩
    have Hgt := hid hgt
    have hgl : gt < 65536 := by rw [← hgt]; exact HD.out.got
    rw [hgt] at hb1 c2 he
    obtain ⟨pm, hpm⟩ : ∃ x : Nat, gt % n = x := ⟨_, rfl⟩
    have hpmn : pm < n := by rw [← hpm]; exact Nat.mod_lt _ (by omega)
    have hpmI : (gt : Int) % (n : Int) = (pm : Int) := by rw [← hpm]; exact (Int.natCast_emod _ _).symm
    have hpmT : Int.tmod (gt : Int) (n : Int) = (pm : Int) := by rw [Int.tmod_eq_emod_of_nonneg (by omega)]; exact hpmI
    obtain ⟨pf, hpf⟩ : ∃ x : Nat, 16 * n + 4 + 2 * pm = x := ⟨_, rfl⟩
    have hpfI : 16 * (n : Int) + 4 + 2 * (pm : Int) = (pf : Int) := by omega
    have hpfs : pf + 2 ≤ vSize n := by unfold vSize; omega
    have hw3 : IntKind.i64.wrap (16 * (n : Int) + 4) = 16 * (n : Int) + 4 := IntWalk.i64_in _ (by omega)
    have hw4 : IntKind.i64.wrap (2 * (pm : Int)) = 2 * (pm : Int) := IntWalk.i64_in _ (by omega)
    have hw5 : IntKind.i64.wrap (pf : Int) = (pf : Int) := IntWalk.i64_in _ (by omega)
    have hn0N : ¬ n = 0 := by omega
    go_quiet ((first | (go_at_call 59; (with_reducible exact Calls.quiet_of (HAv.out _))) | (go_at_call 58; (with_reducible exact Calls.quiet_of (HG.out _)))))
    revert nq
    intro q1
    have D1 := hid (HD.out.drewN q1)
    have M1 := hid (HM.out.keep (below_drewN (Below.refl _ _) q1))
    have F1 := hid (Below.frameF (below_drewN (Below.refl w.heap.size w) q1) (fun k => k = g))
    clear HAv HG HD HM c2
    generalize w.drewN q1 = w1 at *
    obtain ⟨hd, hhd⟩ : ∃ x, leAt M (b + pf) 2 = x := ⟨_, rfl⟩
    have hhdl : hd < 65536 := by rw [← hhd]; exact leAt2 _ _
    have hwh : IntKind.i64.wrap (hd : Int) = (hd : Int) := IntWalk.i64_in _ (by omega)
    have c1 : w1.cell? ⟨g, 1, none⟩ = some (.int .i64 (n : Int)) := D1.out.tab.cell 1
    have c2 : w1.cell? ⟨g, 2, none⟩ = some (.int .i64 (gt : Int)) := (D1.out.tab.cell 2).trans (congrArg (fun z : Nat => some (Value.int .i64 (z : Int))) Hgt.out)
    have HAv := hid (fun j => quiet0 (vavail_at g n (w1.drewN j) (by omega) (D1.out.tab.cell 1)))
    have HG := hid (fun j => quiet0 (get2_at g gm b (vSize n) M pf (w1.drewN j) (M1.out.keep (below_drewN (Below.refl _ _) j)) Hb.out hpfs HbS.out (D1.out.tab.cell 0)))
    rw [hhd] at HG
    obtain ⟨gt1, hgt1⟩ : ∃ x, (gt + 1) % 65536 = x := ⟨_, rfl⟩
    have hgt1l : gt1 < 65536 := by omega
    have Hv := hid (show vTake M b n d = some ((vChain M b n (n + 1) hd []).map fun l => (hd, l), { d with got := gt1 }) by
      unfold vTake
      rw [if_neg (by rw [Hu.out, Hgt.out]; exact he), Hgt.out, hpm, hpf, hhd, hgt1])
    clear hpm hpf hhd he
    go_upto_region 3 with fail
    go_quiet ((first | (go_at_call 59; (with_reducible exact Calls.quiet_of (HAv.out _))) | (go_at_call 58; (with_reducible exact Calls.quiet_of (HG.out _)))))
    revert nq
    intro q2
    have D2 := hid (D1.out.drewN q2)
    have M2 := hid (M1.out.keep (below_drewN (Below.refl _ _) q2))
    have F2 := hid (F1.out.trans (Below.frameF (below_drewN (Below.refl w1.heap.size w1) q2) (fun k => k = g)) (fun _ _ h => h))
    clear HAv HG D1 M1 F1 c1 c2
    generalize w1.drewN q2 = w2 at *
    have c2 : w2.cell? ⟨g, 2, none⟩ = some (.int .i64 (gt : Int)) := (D2.out.tab.cell 2).trans (congrArg (fun z : Nat => some (Value.int .i64 (z : Int))) Hgt.out)
    have z2 := D2.out.tab.frozen 2
    have HNx := hid (vnext_at gt w2 hgl)
    rw [hgt1] at HNx
    clear hgt1
    go_upto_region 6 with (go_at_call 60; refine HNx.out.mono ?_; rintro e w' ⟨rfl, hw⟩; have hw := hw.symm; subst hw)
    have D3 := hid (D2.out.got_ gt1 hgt1l)
    have f3 := frame_mem (grown_set w2 g 2 (.int .i64 (gt1 : Int)))
    have M3 := hid (M2.out.frame f3 (fun e => Hgm.out e.symm))
    have F3 := hid (F2.out.trans f3 (fun _ _ h => h))
    clear D2 M2 F2 c2 z2 f3 HNx
    generalize w2.setCell ⟨g, 2, none⟩ (.int .i64 (gt1 : Int)) = w3 at *
    obtain ⟨R, hR⟩ : ∃ x, vChain M b n (n + 1) hd [] = x := ⟨_, rfl⟩
    rw [hR] at Hv
    have HR := hid hR
    have Hz3 := hid (show w.heap.size ≤ w3.heap.size from F3.out.size)
    clear hR
    go_wp2_with fail
    go_loopg [6, 7, 8, 9, 10] (n + 1) (fun gk s6 s7 _ _ _ wx => ∃ (i : Nat) (acc : List VBuf) (v : Value), s6 = v ∧ s7 = .int .i64 (i : Int) ∧ i < 65536 ∧ acc.length + gk = n + 1 ∧ acc.length ≤ n ∧ vChain M b n gk i acc = R ∧ wx.ownsRow w.heap.size 93 3 v acc.length (bufRow acc) ∧ Below w.heap.size w3 wx)
    case atStart => exact ⟨hd, [], _, rfl, rfl, hhdl, by simp, Nat.zero_le _, HR.out, World.ownsRow_nil _ _ _ _, Below.refl _ _⟩
    case round =>
      obtain ⟨i, acc, v, rfl, rfl, hi, hgk, hal, hch, hown, hbx⟩ := hrel
      have D4 := hid (D3.out.below hbx Hlt.out.1)
      have M4 := hid (show MemAt wr gm M from Blk.below M3.out hbx Hlt.out.2)
      have F4 := hid (frame_below F3.out hbx)
      obtain ⟨_, A, c, rfl, _, _, _⟩ := RowN.of_own hown
      have Hown := hid hown
      have Hch := hid hch
      have Hbx := hid hbx
      obtain ⟨an, han⟩ : ∃ x, acc.length = x := ⟨_, rfl⟩
      rw [han] at Hown hgk hal
      have Han := hid han
      rw [han]
      have c1 : wr.cell? ⟨g, 1, none⟩ = some (.int .i64 (n : Int)) := D4.out.tab.cell 1
      clear hown hch hbx han
      generalize wr = w4 at *
      by_cases hbad : n ≤ i ∨ an = n
      · have hRn : R = none := by
          rw [← Hch.out]
          cases gk with
          | zero => rfl
          | succ k => unfold vChain; rw [if_pos (by rw [Han.out]; exact hbad)]
        have Hr := hid (show vTake M b n d = some (none, { d with got := gt1 }) by rw [Hv.out, hRn]; rfl)
        clear hRn
        have hcs : (n : Int) ≤ (i : Int) ∨ ¬ (n : Int) ≤ (i : Int) ∧ ((an : Int) == (n : Int)) = true := by
          rcases hbad with h1 | h1
          · exact .inl (by omega)
          · by_cases h2 : (n : Int) ≤ (i : Int)
            · exact .inl h2
            · exact .inr ⟨h2, by simp [h1]⟩
        clear hbad
        rcases hcs with h1 | ⟨h1, h2⟩
        all_goals
          go_wp2_with fail
          go_ret3
          rw [Hr.out]
          exact ⟨⟨rfl, D4.out⟩, F4.out⟩
      have Hmv := hid (show an + 1 ≤ n by omega)
      have hni : ¬ (n : Int) ≤ (i : Int) := by omega
      have hne : ((an : Int) == (n : Int)) = false := by simp; omega
      obtain ⟨k, rfl⟩ : ∃ k, gk = k + 1 := ⟨gk - 1, by omega⟩
      obtain ⟨p, hp⟩ : ∃ p : Nat, 16 * i = p := ⟨_, rfl⟩
      have hpI : 16 * (i : Int) = (p : Int) := by omega
      obtain ⟨p8, hp8⟩ : ∃ x : Nat, p + 8 = x := ⟨_, rfl⟩
      have hp8I : (p : Int) + 8 = (p8 : Int) := by omega
      obtain ⟨p12, hp12⟩ : ∃ x : Nat, p + 12 = x := ⟨_, rfl⟩
      have hp12I : (p : Int) + 12 = (p12 : Int) := by omega
      obtain ⟨p14, hp14⟩ : ∃ x : Nat, p + 14 = x := ⟨_, rfl⟩
      have hp14I : (p : Int) + 14 = (p14 : Int) := by omega
      have hbnd : p14 + 2 ≤ vSize n := by unfold vSize; omega
      have Hbnd := hid hbnd
      obtain ⟨ad, had⟩ : ∃ x, leAt M (b + p) 8 = x := ⟨_, rfl⟩
      have hadl : ad < 18446744073709551616 := by rw [← had]; exact leAt8 _ _
      obtain ⟨fl, hfl⟩ : ∃ x, leAt M (b + p12) 2 = x := ⟨_, rfl⟩
      have hfll : fl < 65536 := by rw [← hfl]; exact leAt2 _ _
      obtain ⟨ln, hln⟩ : ∃ x, leAt M (b + p8) 4 = x := ⟨_, rfl⟩
      have hlnl : ln < 4294967296 := by rw [← hln]; exact leAt4 _ _
      obtain ⟨nx, hnx⟩ : ∃ x, leAt M (b + p14) 2 = x := ⟨_, rfl⟩
      have hnxl : nx < 65536 := by rw [← hnx]; exact leAt2 _ _
      have Hstep := hid (show R = if ad > 4611686018427387904 then none else if fl % 2 = 0 then some (acc ++ [⟨ad, ln, fl / 2 % 2 == 1⟩]) else vChain M b n k nx (acc ++ [⟨ad, ln, fl / 2 % 2 == 1⟩]) by
        rw [← Hch.out]
        rw [vChain_succ, if_neg (by rw [Han.out]; exact hbad), hp, hp8, hp12, hp14, had, hfl, hln, hnx])
      have HG8 := hid (get8_at g gm b (vSize n) M p w4 M4.out Hb.out (by omega) HbS.out (D4.out.tab.cell 0))
      have HG12 := hid (get2_at g gm b (vSize n) M p12 w4 M4.out Hb.out (by omega) HbS.out (D4.out.tab.cell 0))
      have HG4 := hid (get4_at g gm b (vSize n) M p8 w4 M4.out Hb.out (by omega) HbS.out (D4.out.tab.cell 0))
      rw [had] at HG8
      rw [hfl] at HG12
      rw [hln] at HG4
      have Hnx := hid hnx
      have hf2 := flag_two fl hfll
      have hf1 := flag_one fl hfll
      have hkb : p14 ≤ 10000 := by omega
      clear hp hp8 hp12 hp14 hbnd had hfl hln hnx hbad Hch
      by_cases hbig : ad > 4611686018427387904
      · have hbigI : (ad : Int) > 4611686018427387904 := by omega
        have Hr := hid (show vTake M b n d = some (none, { d with got := gt1 }) by rw [Hv.out, Hstep.out, if_pos hbig]; rfl)
        clear hbig
        go_wp2_with (first
          | (go_at_call 58; (with_reducible refine HG8.out.mono ?_); rintro e w' ⟨rfl, hw⟩; have hw := hw.symm; subst hw)
          | (go_at_call 58; (with_reducible refine HG12.out.mono ?_); rintro e w' ⟨rfl, hw⟩; have hw := hw.symm; subst hw))
        go_ret3
        rw [Hr.out]
        exact ⟨⟨rfl, D4.out⟩, F4.out⟩
      have hbigI : ¬ (ad : Int) > 4611686018427387904 := by omega
      obtain ⟨wb, hwb⟩ : ∃ x, (fl / 2 % 2 == 1) = x := ⟨_, rfl⟩
      rw [hwb] at hf2
      have Hwb := hid hwb
      have hau : IntKind.i64.wrap (ad : Int) = (ad : Int) := IntWalk.i64_in _ (by omega)
      clear hwb
      go_upto_region 15 with (first
        | (go_at_call 58; (with_reducible refine HG8.out.mono ?_); rintro e w' ⟨rfl, hw⟩; have hw := hw.symm; subst hw)
        | (go_at_call 58; (with_reducible refine HG12.out.mono ?_); rintro e w' ⟨rfl, hw⟩; have hw := hw.symm; subst hw)
        | (go_at_call 58; (with_reducible refine HG4.out.mono ?_); rintro e w' ⟨rfl, hw⟩; have hw := hw.symm; subst hw)
        | ((with_reducible show wpList _ _ _ (Oper.mk (some 108) _ _ _ _ _ :: _) _ _); refine wpList_app _ rfl _ _ 94 rfl w.heap.size 93 (.agg #[.int .i64 0, .int .i64 0, .bool false]) 3 24 bufok (.slice A an c) an (bufRow acc) rfl (own_below Hown.out (below_alloc _ _)) (.slice (some ⟨w4.heap.size, 0, none⟩) 1 1) 1 [.int .i64 (ad : Int), .int .i64 (ln : Int), .bool wb] rfl (rowS_lit 3 #[.int .i64 (ad : Int), .int .i64 (ln : Int), .bool wb] 1 _ rfl (by simp) (by simp [maxLen])) (by simp [Value.oneCell']) (by omega) (by simp only [maxLen]; omega) (by have := Hz3.out; have := Hbx.out.size; simp; omega) ?_; intro v9 w9 hown9 hg9 hat9; obtain ⟨_, A9, c9', rfl, _, _, _⟩ := RowN.of_own hown9; have Hown9 := hid hown9; have Hb9 := hid (show Below w.heap.size w3 w9 from (Hbx.out.trans ((below_alloc w4 (.cells #[.int .i64 (ad : Int), .int .i64 (ln : Int), .bool wb] 93)).mono (by have := Hz3.out; have := Hbx.out.size; omega))).trans (grown_below (own_below Hown.out (below_alloc _ _)) (by have := Hz3.out; have := Hbx.out.size; simp; omega) hg9)); clear hown9 hg9 hat9))
      have D9 := hid (D3.out.below Hb9.out Hlt.out.1)
      have M9 := hid (show MemAt w9 gm M from Blk.below M3.out Hb9.out Hlt.out.2)
      have F9 := hid (frame_below F3.out Hb9.out)
      obtain ⟨acc', hacc⟩ : ∃ x, acc ++ [(⟨ad, ln, fl / 2 % 2 == 1⟩ : VBuf)] = x := ⟨_, rfl⟩
      have Hrow := hid (show bufRow acc' = bufRow acc ++ [.int .i64 (ad : Int), .int .i64 (ln : Int), .bool wb] by rw [← hacc, bufRow_snoc, ← Hwb.out]; rfl)
      have Hacl := hid (show acc'.length = an + 1 by rw [← hacc, List.length_append, Han.out]; rfl)
      rw [hacc, if_neg hbig] at Hstep
      clear D4 M4 F4 Hown Hbx HG8 HG12 HG4 hacc hbig c1
      by_cases hend : fl % 2 = 0
      · have hf1b : (bits .and .u64 (fl : Int) 1 == 0) = true := by rw [hf1, hend]; rfl
        clear hf1
        have Hr := hid (show vTake M b n d = some (some (hd, acc'), { d with got := gt1 }) by rw [Hv.out, Hstep.out, if_pos hend]; rfl)
        clear hend
        go_wp2_with fail
        go_ret3
        rw [Hr.out]
        exact ⟨⟨_, rfl, by rw [Hacl.out, Hrow.out]; exact Hown9.out, D9.out⟩, F9.out⟩
      · have hf1b : (bits .and .u64 (fl : Int) 1 == 0) = false := by rw [hf1]; simp [hend]
        clear hf1
        have HG14 := hid (get2_at g gm b (vSize n) M p14 w9 M9.out Hb.out Hbnd.out HbS.out (D9.out.tab.cell 0))
        rw [Hnx.out] at HG14
        rw [if_neg hend] at Hstep
        have hnw : IntKind.i64.wrap (nx : Int) = (nx : Int) := IntWalk.i64_in _ (by omega)
        have hmv : an + 1 + k = n + 1 ∧ an + 1 ≤ n := ⟨by omega, Hmv.out⟩
        clear hend
        go_wp2_with (go_at_call 58; (with_reducible refine HG14.out.mono ?_); rintro e w' ⟨rfl, hw⟩; have hw := hw.symm; subst hw)
        go_roundg k
        case measure => omega
        case rel => exact ⟨nx, acc', _, rfl, rfl, hnxl, by rw [Hacl.out]; exact hmv.1, by rw [Hacl.out]; exact hmv.2, Hstep.out.symm, by rw [Hacl.out, Hrow.out]; exact Hown9.out, Hb9.out⟩
end Go.Proofs.Ytgiegiobigdplaa
