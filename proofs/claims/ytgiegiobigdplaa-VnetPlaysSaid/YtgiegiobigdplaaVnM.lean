/- A card's queue is begun. -/
import Derived.Test.YtgiegiobigdplaaVnK
namespace Go.Proofs.Ytgiegiobigdplaa
section
open Go Go.RowKit
attribute [local go_sem ↓] Go.wp_at_zero Go.wp_at_succ
set_option maxRecDepth 100000
set_option linter.unusedSimpArgs false

def backV (r : Option (Nat × Nat) × VQ) : Value := match r with
  | (none, _) => .tuple #[.int .i64 (-1), .int .i64 0]
  | (some (p, l), _) => .tuple #[.int .i64 (p : Int), .int .i64 (l : Int)]
def BackPost (base gm b n m gd gp gh : Nat) (FD : Nat → Prop) (r : Option (Nat × Nat) × VQ) (w : World) (e : Ending) (w' : World) : Prop :=
  e = .returned (backV r) ∧ QAt w' base gm b n r.2 m gd gp gh FD ∧ Frame (fq FD gp gh) w w'
/-- what Used does: three ways -/
theorem vUsed_cases (M : List UInt8) (b n : Nat) (q : VQ) (hq : q.got < 65536) :
    (vUsed M b n q = none ∧ vLag M b n q = 0) ∨ (∃ q', vUsed M b n q = some (none, q') ∧ q'.busy = q.busy ∧ vLag M b n q' + 1 = vLag M b n q)
      ∨ ∃ h l q', vUsed M b n q = some (some (h, l), q') ∧ q.busy[h]? = some true ∧ q'.busy = q.busy.set h false ∧ vLag M b n q' + 1 = vLag M b n q ∧ h < 4294967296 := by
  unfold vUsed
  by_cases h0 : leAt M (b + (18 * n + 4 + 2)) 2 = q.got
  · rw [if_pos h0]
    exact .inl ⟨rfl, (vLag_zero hq).2 h0⟩
  · rw [if_neg h0]
    right
    simp only
    by_cases h1 : q.busy[leAt M (b + (18 * n + 4 + 4 + 8 * (q.got % n))) 4]? = some true
    · rw [if_pos h1]
      exact .inr ⟨_, _, _, rfl, h1, rfl, vLag_step hq h0 rfl, leAt4 _ _⟩
    · rw [if_neg h1]
      exact .inl ⟨_, rfl, rfl, vLag_step hq h0 rfl⟩
theorem vBack_none {M : List UInt8} {b n k : Nat} {q : VQ} (h : vUsed M b n q = none) : vBack M b n k q = (none, q) := by
  cases k with
  | zero => rfl
  | succ k => rw [vBack, h]
theorem vBack_skip {M : List UInt8} {b n k : Nat} {q q' : VQ} (h : vUsed M b n q = some (none, q')) : vBack M b n (k + 1) q = vBack M b n k q' := by rw [vBack, h]
theorem vBack_some {M : List UInt8} {b n k : Nat} {q q' : VQ} {x : Nat × Nat} (h : vUsed M b n q = some (some x, q')) : vBack M b n (k + 1) q = (some x, q') := by rw [vBack, h]
set_option maxHeartbeats 4000000 in
theorem vqback_at (base gm b n gC o gd fr gp gh m : Nat) (q : VQ) (FD : Nat → Prop) (M : List UInt8) (w : World) (h : QAt w base gm b n q m gd gp gh FD) (hc : QCells w gC o gd fr gp gh n) (hm : MemAt w gm M) (hfm : ¬ fq FD gp gh gm) (hcf : ¬ fq FD gp gh gC)
    (hok : okN (n : Int) = true) (hb : b + vSize n ≤ M.length) (R : Option (Nat × Nat) × VQ) (hR : vBack M b n 65536 q = R) :
    Calls Try.prog 36 #[.pointer (some ⟨gC, o, none⟩)] w (BackPost base gm b n m gd gp gh FD R w) := by
  have hn := okN_le hok
  have HQ := hid h
  have HC := hid hc
  have HM := hid hm
  have Hs := hid (And.intro hfm hcf)
  have Hok := hid hok
  have Hb := hid hb
  have HR := hid hR
  clear h hc hm hfm hcf hok hb hR
  go_enter Try.func36, Try.ntmps36
  go_wp2_with fail
  go_loopg [4, 5, 6, 7, 8] 65536 (fun gk _ _ _ _ _ wr => ∃ q1 : VQ, QAt wr base gm b n q1 m gd gp gh FD ∧ vBack M b n gk q1 = R ∧ vLag M b n q1 + 1 ≤ gk ∧ Frame (fq FD gp gh) w wr)
  case atStart => exact ⟨q, HQ.out, HR.out, by have := vLag_lt M b n q; omega, Frame.refl _ _⟩
  case round =>
    obtain ⟨q1, hq1, hR1, hlag, hfr⟩ := hrel
    have Q1 := hid hq1
    have R1 := hid hR1
    have Lag := hid hlag
    have Fr := hid hfr
    have C1 := hid (HC.out.frame hfr Hs.out.2)
    have M1 := hid (HM.out.frame hfr Hs.out.1)
    have c0 := C1.out.c0
    have c2 := C1.out.c2
    have c3 := C1.out.c3
    clear hq1 hR1 hlag hfr
    have HU := hid (vused_at base gm b n gd m q1 M FD wr Q1.out.drv M1.out (fun e => Hs.out.1 (.inl e)) Hok.out Hb.out)
    rcases vUsed_cases M b n q1 Q1.out.got with ⟨hu, _⟩ | ⟨q2, hu, hb2, hl2⟩ | ⟨hd, l, q2, hu, hbz, hb2, hl2, hhl⟩
    · rw [hu] at HU
      have Hu := hid hu
      clear hu c2 c3
      go_wp2_with (go_at_call 54; refine HU.out.mono ?_; rintro e w2 ⟨rfl, hd, hf⟩; have D2 := hid hd; have F2 := hid hf; clear hd hf; unfold usedV)
      go_ret2
      have e : R = (none, q1) := by rw [← R1.out]; exact vBack_none Hu.out
      rw [e]
      exact ⟨rfl, ⟨D2.out, F2.out.blk Q1.out.pl Q1.out.np, Q1.out.hm.block (F2.out.block gh Q1.out.hm.lt Q1.out.nh), Q1.out.np, Q1.out.nh, Q1.out.lp, Q1.out.lh⟩, Fr.out.trans F2.out (fun _ _ e => .inl e)⟩
    · rw [hu] at HU
      have Hu := hid hu
      have Hb2 := hid hb2
      have Hl2 := hid hl2
      obtain ⟨k, rfl⟩ : ∃ k, gk = k + 1 := ⟨gk - 1, by have := Lag.out; omega⟩
      obtain ⟨hv, hhv⟩ : ∃ x, headF q1.busy 0 = x := ⟨_, rfl⟩
      have Hl0 := hid (show ∀ wy, MapI Try.prog 3 wy gh m (headF q1.busy) → (Instr.lookup 56 (.map (some gh)) (.int .i64 0) true).run Try.prog wy = .ok (.tuple #[hv.getD (.int .i64 0), .bool hv.isSome]) wy from fun wy hy => by
        rw [← hhv]
        exact MapI.lookOk hy Try.underlying3 Try.underlying56 (zero_int wy) 0 (by decide))
      clear hu hb2 hl2 hhv c2 c3
      cases hv with
      | none =>
        go_wp2_with (go_at_call 54; refine HU.out.mono ?_; rintro e w2 ⟨rfl, hd, hf⟩; have D2 := hid hd; have F2 := hid hf; have H2 := hid (Q1.out.hm.block (F2.out.block gh Q1.out.hm.lt Q1.out.nh)); have hlk := Hl0.out w2 H2.out; simp only [Option.getD_none, Option.isSome_none] at hlk; have c3 := (C1.out.frame hf (fun e => Hs.out.2 (.inl e))).c3; clear hd hf; unfold usedV)
        go_roundg k
        case measure => omega
        case rel =>
          exact ⟨q2, ⟨D2.out, by rw [Hb2.out]; exact F2.out.blk Q1.out.pl Q1.out.np, by rw [Hb2.out]; exact H2.out, Q1.out.np, Q1.out.nh, Q1.out.lp, Q1.out.lh⟩, by rw [← R1.out]; exact (vBack_skip Hu.out).symm, by have := Lag.out; have := Hl2.out; omega, Fr.out.trans F2.out (fun _ _ e => .inl e)⟩
      | some v =>
        go_wp2_with (go_at_call 54; refine HU.out.mono ?_; rintro e w2 ⟨rfl, hd, hf⟩; have D2 := hid hd; have F2 := hid hf; have H2 := hid (Q1.out.hm.block (F2.out.block gh Q1.out.hm.lt Q1.out.nh)); have hlk := Hl0.out w2 H2.out; simp only [Option.getD_some, Option.isSome_some] at hlk; have c3 := (C1.out.frame hf (fun e => Hs.out.2 (.inl e))).c3; clear hd hf; unfold usedV)
        go_roundg k
        case measure => omega
        case rel =>
          exact ⟨q2, ⟨D2.out, by rw [Hb2.out]; exact F2.out.blk Q1.out.pl Q1.out.np, by rw [Hb2.out]; exact H2.out, Q1.out.np, Q1.out.nh, Q1.out.lp, Q1.out.lh⟩, by rw [← R1.out]; exact (vBack_skip Hu.out).symm, by have := Lag.out; have := Hl2.out; omega, Fr.out.trans F2.out (fun _ _ e => .inl e)⟩
    · rw [hu] at HU
      have Hu := hid hu
      have Hb2 := hid hb2
      have hdn : hd < n := by have := (List.getElem?_eq_some_iff.1 hbz).1; rw [Q1.out.len] at this; exact this
      obtain ⟨k, rfl⟩ : ∃ k, gk = k + 1 := ⟨gk - 1, by have := Lag.out; omega⟩
      have Hl0 := hid (show ∀ wy, MapI Try.prog 3 wy gh m (headF q1.busy) → (Instr.lookup 56 (.map (some gh)) (.int .i64 (hd : Int)) true).run Try.prog wy = .ok (.tuple #[.int .i64 (hd : Int), .bool true]) wy from fun wy hy => by
        have := MapI.lookOk hy Try.underlying3 Try.underlying56 (zero_int wy) hd hhl
        rw [show headF q1.busy hd = some (.int .i64 (hd : Int)) by unfold headF; rw [if_pos hbz]] at this
        exact this)
      have hdI : (hd : Int) < (n : Int) := by omega
      clear hu hb2 hl2 hbz c2 c3
      go_upto_region 7 with (first
        | (go_at_call 54; refine HU.out.mono ?_; rintro e w2 ⟨rfl, hd, hf⟩; have D2 := hid hd; have F2 := hid hf; have H2 := hid (Q1.out.hm.block (F2.out.block gh Q1.out.hm.lt Q1.out.nh)); have hlk := Hl0.out w2 H2.out; have C2 := hid (C1.out.frame hf (fun e => Hs.out.2 (.inl e))); have c3 := C2.out.c3; have P2 := hid (F2.out.blk Q1.out.pl Q1.out.np); clear hd hf; unfold usedV)
        | ((with_reducible show wpList _ _ _ (Oper.mk none (Op.call _) _ _ _ _ :: _) _ _); refine wpList_deleteI rfl _ _ 56 3 rfl Try.underlying3 Try.underlying56 rfl H2.out hd hhl rfl ?_; intro w5 hm5 hg5; have H5 := hid hm5; have G5 := hid hg5; clear hm5 hg5))
      have f5 := frame_mem G5.out
      have c2 := cell_frame f5 C2.out.c2 (fun e => Hs.out.2 (.inr (.inr e)))
      have P5 := hid (f5.blk P2.out (H2.out.ne P2.out))
      obtain ⟨old, hcell⟩ : ∃ old, w5.cell? ⟨gp, hd, none⟩ = some old := by
        have hlt : hd < (q1.busy.map Value.bool).length := by rw [List.length_map, Q1.out.len]; exact hdn
        exact ⟨_, (P5.out.cell hd).trans (List.getElem?_eq_getElem hlt)⟩
      have hzf := P5.out.frozen hd
      clear f5 c0 c3
      go_wp2_with fail
      go_ret2
      have e : R = (some (hd, l), q2) := by rw [← R1.out]; exact vBack_some Hu.out
      have g6 := grown_set w5 gp hd (.bool false)
      have f6 : Frame (fun k => k = gh ∨ k = gp) w2 (w5.setCell ⟨gp, hd, none⟩ (.bool false)) := ((frame_mem G5.out).weaken (fun _ _ e => .inl e)).trans (frame_mem g6) (fun _ _ e => .inr e)
      have hno : ∀ k, FD k → ¬ (k = gh ∨ k = gp) := fun k hk e => by
        rcases e with rfl | rfl
        · exact Q1.out.nh hk
        · exact Q1.out.np hk
      have hpl := P5.out.set_ hd (.bool false)
      rw [← List.map_set] at hpl
      have hne : gp ≠ gh := H2.out.ne P2.out
      have hm6 := H5.out.kept g6 (fun e => by injection e with e; exact hne e.symm)
      rw [headF_drop q1.busy hd] at hm6
      rw [e]
      exact ⟨rfl, ⟨D2.out.frame f6 hno, by rw [Hb2.out]; exact hpl, by rw [Hb2.out]; exact hm6, Q1.out.np, Q1.out.nh, Q1.out.lp, Q1.out.lh⟩, (Fr.out.trans F2.out (fun _ _ e => .inl e)).trans f6 (fun _ _ e => .inr (e.elim .inr .inl))⟩
end
section
open Go Go.RowKit
attribute [local go_sem ↓] Go.wp_at_zero Go.wp_at_succ
set_option maxRecDepth 100000
set_option linter.unusedSimpArgs false

theorem qinfo : (Try.prog.info? 58).map (·.size) = some 4 := by kernel_rfl
theorem headF_none (n : Nat) : headF (List.replicate n false) = fun _ => none := by
  funext y
  unfold headF
  rw [List.getElem?_replicate]
  split <;> simp
theorem DrvInv.base_ {w : World} {base base' gm b n g : Nat} {q : VQ} {m : Nat} {F : Nat → Prop} (h : DrvInv w base gm b n g q m F) (hb : base' ≤ base) : DrvInv w base' gm b n g q m F := by
  obtain ⟨a1, a2, a3, h⟩ := h
  exact ⟨a1, a2, a3, h.tab, h.bs, h.len, h.map, fun x hx => ⟨fun hb2 => by
    obtain ⟨v, h1, h2, h3⟩ := (h.ch x hx).1 hb2
    exact ⟨v, h1, own_mono h2 hb, h3⟩, (h.ch x hx).2⟩, h.fg, h.fb, h.fc, fun k hk => ⟨Nat.le_trans hb (h.flt k hk).1, (h.flt k hk).2⟩, h.put, h.got⟩
def BeginPost (gm b n fr : Nat) (M : List UInt8) (w : World) (e : Ending) (w' : World) : Prop := ∃ gd gp gh FD, e = .returned (.tuple #[.agg #[.pointer (some ⟨gd, 0, none⟩), .int .i64 (fr : Int), .slice (some ⟨gp, 0, none⟩) n n, .map (some gh)], .int .i64 0]) ∧ QAt w' w.heap.size gm b n (vq0 n) 0 gd gp gh FD ∧ MemAt w' gm (patch M b (zeros (vSize n))) ∧ Frame (fun k => k = gm) w w'
theorem vbegin_yes (gm L b n fr : Nat) (M : List UInt8) (w : World) (hok : okN (n : Int) = true) (hb : b + vSize n ≤ L) (hL : L ≤ 1000000) (hM : M.length = L) (hm : MemAt w gm M) :
    Calls Try.prog 28 #[.slice (some ⟨gm, 0, none⟩) L L, .int .i64 (b : Int), .int .i64 (n : Int), .int .i64 (fr : Int)] w (BeginPost gm b n fr M w) := by
  have hn := okN_le hok
  have hmk := run_makeB .i64 .i64 (n : Int) n rfl (by omega)
  have hmm := @run_makeMap Try.prog
  have Hlt := hid (Blk.lt hm)
  have HB := hid (below_alloc w (.cells #[.pointer none, .int .i64 0, .slice none 0 0, .map none] 58))
  have BX := hid (Blk.new w 58 #[.pointer none, .int .i64 0, .slice none 0 0, .map none])
  have HD := hid (vnewdrv_yes gm L b n M _ hok hb hL hM (hm.keep HB.out))
  clear hok hb hL hM hm
  go_enter Try.func28, Try.ntmps28
  go_upto_region 2 with (go_at_call 50; refine HD.out.mono ?_; rintro e w2 ⟨gd, FD, rfl, hd, hm, hf⟩; have D2 := hid hd; have M2 := hid hm; have F2 := hid hf; clear hd hm hf)
  have hgr : w.heap.size ≠ gm := by have := Hlt.out; omega
  have X2 := hid (F2.out.blk BX.out hgr)
  generalize w.alloc (.cells #[.pointer none, .int .i64 0, .slice none 0 0, .map none] 58) = w1 at *
  go_wp2_with ((with_reducible show wpList _ _ _ (Oper.mk none _ _ _ _ _ :: _) _ _); refine wpList_storeBlk rfl _ _ _ rfl _ _ rfl rfl _ _ (((X2.out.alloc _).alloc _)) qinfo rfl rfl ?_; intro w4 hblk hg hsz; have S4 := hid hblk; have G4 := hid hg; clear hblk hg hsz; (try simp only [Act.put]))
  refine ret_cell2 rfl _ _ _ _ rfl S4.out Try.underlying58 qinfo _ rfl rfl ?_
  have hz2 : w.heap.size ≤ w2.heap.size := Nat.le_trans HB.out.size F2.out.size
  have hb2 : Below w2.heap.size w2 ((w2.alloc (.cells (falses n) 4)).alloc (.map #[] 0)) := below_alloc' (below_alloc w2 _) _
  have D3 := D2.out.keep hb2
  have M3 := M2.out.keep hb2
  have P3 := (Blk.new w2 4 (falses n)).alloc (.map #[] 0)
  have H3 := MapI.made Try.prog 3 (w2.alloc (.cells (falses n) 4))
  rw [World.size_alloc] at H3
  have f4 := frame_mem G4.out
  have hw1 : w.heap.size < w1.heap.size := BX.out.lt
  have hz1 : w1.heap.size ≤ w2.heap.size := F2.out.size
  have hno : ∀ k, FD k → k ≠ w.heap.size := fun k hk e => by
    have := D2.out.bd k hk
    omega
  have hfd : ∀ k, FD k → k < w2.heap.size := fun k hk => (D2.out.bd k hk).2
  refine ⟨gd, w2.heap.size, w2.heap.size + 1, FD, rfl, ⟨(D3.base_ (Nat.le_of_lt hw1)).frame f4 hno, ?_, ?_, fun e => by have := hfd _ e; omega, fun e => by have := hfd _ e; omega, by omega, by omega⟩, M3.frame f4 (by have := Hlt.out; omega), ?_⟩
  · have := f4.blk P3 (by omega)
    rw [show (falses n).toList = (vq0 n).busy.map Value.bool by simp [falses, vq0]] at this
    exact this
  · show MapI Try.prog 3 w4 (w2.heap.size + 1) 0 (headF (List.replicate n false))
    rw [headF_none]
    exact H3.block (f4.block _ H3.lt (by omega))
  · have h1 : Frame (fun k => k = gm) w w2 := (Below.frameF HB.out _).trans F2.out (fun _ _ h => h)
    have h2 : Frame (fun k => k = gm ∨ k = w.heap.size) w w4 := ((h1.weaken (fun _ _ e => .inl e)).trans (Below.frameF hb2 (fun _ => False)) (fun _ _ e => e.elim)).trans f4 (fun _ _ e => .inr e)
    exact ⟨h2.os, h2.tape, h2.output, h2.size, fun k hk hn => h2.block k hk (fun e => e.elim hn (fun e => by omega))⟩
end
end Go.Proofs.Ytgiegiobigdplaa
