/- The program's port tells what was sent. -/
import Derived.Test.YtgiegiobigdplaaVnT
namespace Go.Proofs.Ytgiegiobigdplaa
open Go Go.RowKit
attribute [local go_sem ↓] Go.wp_at_zero Go.wp_at_succ
set_option maxRecDepth 100000
set_option linter.unusedSimpArgs false
set_option linter.unusedVariables false

theorem step_appH {P : Program} (w : World) {ops : Array Oper} {o : Oper} {a : Act} {K : Act → World → Prop} {Q : Exit → Act → World → Prop} {Ep : Prop} (hgd : o.guard = none) (s x : Operand) (T : TypeId)
    (ho : o.op = .call { callee := .builtin .append, args := #[s, x], argTypes := #[T, T] })
    (base : Nat) (E : TypeId) (z : Value) (size bytes : Nat) (he : ElemOk P T E z size bytes)
    (v : Value) (n : Nat) (xs : List Value) (hs : a.eval s = v) (hown : w.ownsRow base E size v n xs) (y : Value) (m : Nat) (ys : List Value) (hx : a.eval x = y) (hr : RowN w size y m ys) (h1 : ∀ u ∈ ys, u.oneCell' = true)
    (hb : (n + m) * bytes ≤ 200000000000000) (h63 : n + m ≤ maxLen) (hbase : base ≤ w.heap.size)
    (h : ∀ v' w', w'.ownsRow base E size v' (n + m) (xs ++ ys) → w.grownBy w' v.ownBlock → (v'.ownBlock = v.ownBlock ∨ v'.ownBlock = some w.heap.size) → K (a.put o.dst v') w') :
    if Region.wanted o (yielded ops a.tmps) = true then Oper.wp P o a w K Q else Ep := by
  have hw : Region.wanted o (yielded ops a.tmps) = true := by simp [Region.wanted, hgd]
  rw [if_pos hw]
  obtain ⟨v', w', hrun, h2, h3, h4⟩ := run_app (P := P) w base T E o.type z size bytes he v n xs hown y m ys hr h1 hb h63 hbase
  unfold Oper.wp execOp
  simp only [ho, resolve, invoke, builtin, Sem.run_bind, Sem.run_pure, Result.andThen_ok, List.map_toArray, List.map_cons, List.map_nil, hs, hx, hrun]
  exact h v' w' h2 h3 h4

/-! ### plain -/
theorem vSent_none {b n k : Nat} {M : List UInt8} {d : VD} {out : List (List UInt8)} (h : vTake M b n d = none) : vSent b n k M d out = (out, M, d) := by
  cases k with
  | zero => rfl
  | succ k => rw [vSent, h]
theorem vSent_skip {b n k : Nat} {M : List UInt8} {d d' : VD} {out : List (List UInt8)} (h : vTake M b n d = some (none, d')) : vSent b n (k + 1) M d out = vSent b n k M d' out := by rw [vSent, h]
def vSentOk (M : List UInt8) (l : List VBuf) : Bool := vPiece M l 26 false && decide ((l.headD ⟨0, 0, false⟩).len ≤ 1526)
theorem vSent_not {b n k hd : Nat} {M : List UInt8} {d d' : VD} {l : List VBuf} {out : List (List UInt8)} (h : vTake M b n d = some (some (hd, l), d')) (hp : vSentOk M l = false) :
    vSent b n (k + 1) M d out = vSent b n k (vGiveM M b n d'.put hd 0) d'.give out := by
  unfold vSentOk at hp
  rw [vSent, h]
  simp only [hp]
  rfl
theorem vSent_yes {b n k hd : Nat} {M : List UInt8} {d d' : VD} {x : VBuf} {out : List (List UInt8)} (h : vTake M b n d = some (some (hd, [x]), d')) (hp : vSentOk M [x] = true) :
    vSent b n (k + 1) M d out = vSent b n k (vGiveM M b n d'.put hd 0) d'.give (out ++ [(M.drop (x.addr + 12)).take (x.len - 12)]) := by
  unfold vSentOk at hp
  rw [vSent, h]
  simp only [hp]
  rfl
def SentPost (base gm L b n gP : Nat) (M : List UInt8) (pi po : VD) (gdi gdo : Nat) (w : World) (e : Ending) (w' : World) : Prop :=
  ∃ v, e = .returned v ∧ PortAt w' base gm L b n gP (vSent (b + vSize n) n 65536 M po []).2.1 pi (vSent (b + vSize n) n 65536 M po []).2.2 gdi gdo ∧ Frame (fun k => portFoot gP gdi gdo k ∨ k = gm) w w' ∧
    RowsN w' w.heap.size (fun _ => False) v (vSent (b + vSize n) n 65536 M po []).1
def SentInv (base gm L b n gP : Nat) (pi : VD) (gdi gdo : Nat) (R : List (List UInt8) × List UInt8 × VD) (w : World) (gk : Nat) (v : Value) (wr : World) : Prop :=
  ∃ M1 d1 out1, PortAt wr base gm L b n gP M1 pi d1 gdi gdo ∧ Frame (fun k => portFoot gP gdi gdo k ∨ k = gm) w wr ∧ RowsN wr w.heap.size (fun _ => False) v out1 ∧ vSent (b + vSize n) n gk M1 d1 out1 = R ∧ vTakeLag M1 (b + vSize n) n d1 + 1 ≤ gk ∧ out1.length + gk ≤ 65536
theorem rows_port {w w' w0 : World} {v : Value} {L : List (List UInt8)} {G : Nat → Prop} (h : RowsN w w0.heap.size (fun _ => False) v L) (hf : Frame G w w') (hG : ∀ k, G k → k < w0.heap.size) : RowsN w' w0.heap.size (fun _ => False) v L :=
  h.step hf (fun k h1 h2 h3 => ⟨fun e => by have := hG k e; omega, id⟩)
set_option maxHeartbeats 8000000 in
theorem vsent_at (base gm L b n gP : Nat) (M : List UInt8) (pi po : VD) (gdi gdo : Nat) (w : World) (h : PortAt w base gm L b n gP M pi po gdi gdo) (hfit : vFits L (b : Int) (n : Int) = true) (hL : L ≤ 1000000) :
    Calls Try.prog 21 #[.pointer (some ⟨gP, 0, none⟩)] w (SentPost base gm L b n gP M pi po gdi gdo w) := by
  obtain ⟨hok, hfb⟩ := fits_parts hfit
  have hn := okN_le hok
  have Hok := hid hok
  have HA := hid (And.intro hfit hfb)
  have Hlt := hid (show ∀ k, (k = gdo ∨ k = gm) → k < w.heap.size from fun k e => e.elim (fun e => e ▸ (h.bd gdo (.inr (.inr rfl))).2) (fun e => e ▸ Blk.lt h.mem))
  have HgP := hid (show ∀ k, portFoot gP gdi gdo k ∨ k = gm → k < w.heap.size from fun k e => e.elim (fun e => (h.bd k e).2) (fun e => e ▸ Blk.lt h.mem))
  unfold SentPost
  obtain ⟨R, hR⟩ : ∃ R, vSent (b + vSize n) n 65536 M po [] = R := ⟨_, rfl⟩
  have H0 := hid (show SentInv base gm L b n gP pi gdi gdo R w 65536 (.slice none 0 0) w from ⟨M, po, [], h, Frame.refl _ _, RowsN.nil _ _ _, hR, vTakeLag_lt M (b + vSize n) n po, Nat.le_refl _⟩)
  rw [hR]
  obtain ⟨b2, hb2⟩ : ∃ x, b + vSize n = x := ⟨_, rfl⟩
  have Hb2 := hid hb2
  clear h hok hR hfit hfb hb2
  go_enter Try.func21, Try.ntmps21
  go_wp2_with fail
  go_loopg [3, 4, 5, 6] 65536 (fun gk s3 _ _ _ wr => SentInv base gm L b n gP pi gdi gdo R w gk s3 wr)
  case atStart => exact H0.out
  case round =>
    obtain ⟨M1, d1, out1, hA, hfr, hrw, hR, hlag, hlen⟩ := hrel
    rw [Hb2.out] at hR hlag
    have A1 := hid hA
    have F1 := hid hfr
    have Rw := hid hrw
    have R1 := hid hR
    have Hlag := hid hlag
    have Hlen := hid hlen
    obtain ⟨k, rfl⟩ : ∃ k, gk = k + 1 := ⟨gk - 1, by omega⟩
    have Hbl := hid (show b2 + vSize n ≤ M1.length by rw [A1.out.len, ← Hb2.out]; have := HA.out.2; omega)
    have Do := hid (show DevAt wr base gm b2 n gdo d1 by rw [← Hb2.out]; exact A1.out.do_)
    have HT := hid (vtake_at base gm b2 n gdo d1 M1 wr Do.out A1.out.mem Hok.out Hbl.out)
    have c2 : wr.cell? ⟨gP, 2, none⟩ = some (.pointer (some ⟨gdo, 0, none⟩)) := A1.out.tab.cell 2
    have Hto := hid (fun (w2 : World) (d2 : VD) (hd2 : DevAt w2 base gm b2 n gdo d2) (hf2 : Frame (fun k => k = gdo) wr w2) =>
      show PortAt w2 base gm L b n gP M1 pi d2 gdi gdo from A1.out.out_ (hf2.weaken (fun _ _ e => .inl e)) (by rw [Hb2.out]; exact hd2) (A1.out.mem.frame hf2 (fun e => A1.out.nm (.inr (.inr e)))) A1.out.len)
    clear hA hfr hR hlag hrw hlen
    rcases vTake_cases M1 b2 n d1 Do.out.got with hu | ⟨d2, hu, hg2, hp2, hl2⟩ | ⟨hd, bl, d2, hu, hg2, hp2, hl2, hdn, hb1, hbn, hbx⟩
    · rw [hu] at HT
      have e : R = (out1, M1, d1) := by rw [← R1.out]; exact vSent_none hu
      have He := hid e
      clear hu e
      go_wp2_with (go_at_call 44; refine HT.out.mono ?_; rintro e w2 ⟨⟨rfl, hd2⟩, hf2⟩; have D2 := hid hd2; have F2 := hid hf2; clear hd2 hf2)
      go_ret
      rw [He.out]
      have f2 : Frame (fun k => k = gdo ∨ k = gm) wr w2 := F2.out.weaken (fun _ _ e => .inl e)
      exact ⟨_, rfl, Hto.out w2 d1 D2.out F2.out, F1.out.trans (frame_out f2) (fun _ _ e => e), rows_port Rw.out f2 Hlt.out⟩
    · rw [hu] at HT
      have HR2 := hid (show vSent b2 n k M1 d2 out1 = R by rw [← R1.out]; exact (vSent_skip hu).symm)
      have Hl2 := hid hl2
      clear hu hl2 hp2
      go_wp2_with (go_at_call 44; refine HT.out.mono ?_; rintro e w2 ⟨⟨rfl, hd2⟩, hf2⟩; have D2 := hid hd2; have F2 := hid hf2; clear hd2 hf2)
      go_roundg k
      case measure => omega
      case rel =>
        have f2 : Frame (fun k => k = gdo ∨ k = gm) wr w2 := F2.out.weaken (fun _ _ e => .inl e)
        exact ⟨M1, d2, out1, Hto.out w2 d2 D2.out F2.out, F1.out.trans (frame_out f2) (fun _ _ e => e), rows_port Rw.out f2 Hlt.out, by rw [Hb2.out]; exact HR2.out, by rw [Hb2.out]; have := Hlag.out; have := Hl2.out; omega, by have := Hlen.out; omega⟩
    · rw [hu] at HT
      have HGi := hid (fun (wy : World) (Mx : List UInt8) (len : Nat) (hy : PortAt wy base gm L b n gP Mx pi d2 gdi gdo) (hlen : len < 4294967296) => vgive_at base gm b2 n gdo hd len d2 Mx wy (by rw [← Hb2.out]; exact hy.do_) hy.mem Hok.out (by rw [hy.len, ← A1.out.len]; exact Hbl.out) hdn hlen)
      have Hl2 := hid hl2
      have Hb := hid (And.intro hb1 (And.intro hbn hbx))
      have hdb : hd ≤ 256 := by omega
      have HBack := hid (fun (out3 : List (List UInt8)) (v3 : Value) (hp : vSent b2 n (k + 1) M1 d1 out1 = vSent b2 n k (vGiveM M1 b2 n d2.put hd 0) d2.give out3) (ho3 : out3.length ≤ out1.length + 1) (w3 w4 : World) (A3 : PortAt w3 base gm L b n gP M1 pi d2 gdi gdo) (f3 : Frame (fun k => portFoot gP gdi gdo k ∨ k = gm) w w3) (r3 : RowsN w3 w.heap.size (fun _ => False) v3 out3)
          (f4 : Frame (fun k => k = gdo ∨ k = gm) w3 w4) (d4 : DevAt w4 base gm b2 n gdo d2.give) (m4 : MemAt w4 gm (vGiveM M1 b2 n d2.put hd 0)) =>
        show SentInv base gm L b n gP pi gdi gdo R w k v3 w4 from
          ⟨_, _, _, A3.out_ f4 (by rw [Hb2.out]; exact d4) m4 (by rw [vGiveM_len _ _ _ _ _ _ (by omega) Hbl.out, A1.out.len]), f3.trans (frame_out f4) (fun _ _ e => e), rows_port r3 f4 Hlt.out, by rw [Hb2.out, ← R1.out]; exact hp.symm,
            by rw [Hb2.out, vTakeLag_giveM (by omega) Hbl.out]; show vTakeLag M1 b2 n d2 + 1 ≤ k; have := Hlag.out; have := Hl2.out; omega, by have := Hlen.out; omega⟩)
      by_cases hli : vLies L bl false = true
      · obtain ⟨x, rfl⟩ : ∃ x, bl = [x] := by
          rcases bl with _ | ⟨x, _ | ⟨y, bl⟩⟩
          · cases hli
          · exact ⟨x, rfl⟩
          · cases hli
        obtain ⟨ad, ln, wb⟩ := x
        have hli2 : (wb == false) = true ∧ ad + ln ≤ L := by
          unfold vLies at hli
          simp only [Bool.and_eq_true, decide_eq_true_eq] at hli
          exact hli
        by_cases hin : 26 ≤ ln ∧ ln ≤ 1526
        · have Hpc := hid (show vSentOk M1 [⟨ad, ln, wb⟩] = true by
            show ((decide (26 ≤ ln) && wb == false && decide (ad + ln ≤ M1.length)) && decide (ln ≤ 1526)) = true
            rw [decide_eq_true hin.1, decide_eq_true hin.2, hli2.1, decide_eq_true (by rw [A1.out.len]; exact hli2.2)]
            rfl)
          have Hli := hid hli
          have HR3 := hid (vSent_yes (k := k) (out := out1) hu Hpc.out)
          have hl1 : (26 : Int) ≤ (ln : Int) := by omega
          have hl3 : (ln : Int) ≤ 1526 := by omega
          have hadL : ad + ln ≤ L := hli2.2
          have HadL := hid (And.intro hadL hin)
          have hadb : ad ≤ 1000000 := by omega
          have hlnb : ln ≤ 1526 := hin.2
          obtain ⟨vs0, ho0, _, _⟩ := Rw.out
          have Hv0 := hid (fun z e => World.ownsRow.lt ho0 z e)
          obtain ⟨ii, hif, hz, hss, hbyy⟩ := info_parts u8info
          have hw12 : IntKind.i64.wrap ((ad : Int) + 12) = (ad : Int) + 12 := IntWalk.i64_in _ (by omega)
          have hwln : IntKind.i64.wrap ((ad : Int) + (ln : Int)) = (ad : Int) + (ln : Int) := IntWalk.i64_in _ (by omega)
          have hcut1 := run_cut (P := Try.prog) (T := 25) Try.underlying25 hif (some ⟨gm, 0, none⟩) L L .i64 .i64 ((ad : Int) + 12) ((ad : Int) + (ln : Int)) (ad + 12) (ln - 12) (by omega) (by omega) (by omega)
          rw [hss, cutA_at gm 0 L _ (by omega), Nat.zero_add] at hcut1
          clear hli hli2 hu hl2 hp2 hb1 hbn hbx hin hif hz hss hbyy hadL ho0
          go_upto_region 7 with (first
            | (go_at_call 44; refine HT.out.mono ?_; rintro e w2 ⟨⟨v, rfl, hrow, hd2⟩, hf2⟩; obtain ⟨gv, cv, rfl⟩ := row_some hrow (Nat.le_refl 1); have Hgv := hid (World.ownsRow.lt hrow gv rfl); have r0 := hrow.cells (g := gv) rfl 0 _ rfl; have r1 := hrow.cells (g := gv) rfl 1 _ rfl; have f2 := hid (show Frame (fun k => k = gdo ∨ k = gm) wr w2 from hf2.weaken (fun _ _ e => .inl e)); have A2 := hid (Hto.out w2 d2 hd2 hf2); have HLi := hid (vlies_at w.heap.size gP gm L [⟨ad, ln, wb⟩] _ false w2 (A2.out.tab.cell 0) (own_mono hrow (F1.out.size)) hL (by simp) (fun x hx => (Hb.out.2.2 x hx).2)); rw [Hli.out] at HLi; clear hrow hd2 hf2)
            | (go_at_call 45; refine HLi.out.mono ?_; rintro e w3 ⟨rfl, q, rfl⟩; have b3 := hid (below_drewN (Below.refl w2.heap.size w2) q); have r0 := cell_below b3.out r0; have r1 := cell_below b3.out r1; have c0 := cell_below b3.out (show w2.cell? ⟨gP, 0, none⟩ = some (.slice (some ⟨gm, 0, none⟩) L L) from A2.out.tab.cell 0); have A3 := hid (A2.out.keep b3.out); rw [add_off] at r0 r1)
            | fail)
          have Rw3 := hid (rows_port (rows_port Rw.out f2.out Hlt.out) (Below.frameF b3.out (fun _ => False)) (fun _ e => e.elim))
          have F3 := hid ((F1.out.trans (frame_out f2.out) (fun _ _ e => e)).trans (Below.frameF b3.out _) (fun _ _ e => e))
          clear b3 A2 HLi
          generalize w2.drewN q = w3 at *
          obtain ⟨vs, ho, hnn, hri⟩ := Rw3.out
          have Ho := hid ho
          have Hri := hid hri
          clear ho hnn hri
          have HCl := hid (fun wy (hy : Below w3.heap.size w3 wy) => clone_any (.slice (some ⟨gm, ad + 12, none⟩) (ln - 12) (L - (ad + 12))) ((M1.drop (ad + 12)).take (ln - 12)) wy ((A3.out.mem.keep hy).bs (by rw [A1.out.len]; have := HadL.out; omega) (by have := HadL.out; omega) (by simp only [maxLen]; omega)) (by simp; have := HadL.out; omega))
          go_region_held3 (fun wy => wy.cell? ⟨gP, 0, none⟩ = some (.slice (some ⟨gm, 0, none⟩) L L) ∧ wy.cell? ⟨gv, 0, none⟩ = some (.int .i64 (ad : Int)) ∧ wy.cell? ⟨gv, 1, none⟩ = some (.int .i64 (ln : Int)))
            (first | exact ⟨c0, r0, r1⟩ | exact ⟨cell_below (below_drew _) c0, cell_below (below_drew _) r0, cell_below (below_drew _) r1⟩ | exact S7.out | exact S5.out | exact ⟨cell_below (below_alloc _ _) S5.out.1, cell_below (below_alloc _ _) S5.out.2.1, cell_below (below_alloc _ _) S5.out.2.2⟩)
            (first
              | (go_at_call 43; refine (HCl.out _ (below_drew w3)).mono ?_; rintro e w5 ⟨x, rfl, hx, hb5⟩; obtain ⟨A9, c9, rfl⟩ := slice_len (n := ln - 12) hx.bs (by rw [List.length_take, List.length_drop, A1.out.len]; have := HadL.out; omega); have X5 := hid hx; have B5 := hid ((below_drew w3).trans hb5); have S5 := hid (And.intro (cell_below B5.out c0) (And.intro (cell_below B5.out r0) (cell_below B5.out r1))); clear hx hb5)
              | (refine step_appH _ (by rfl) _ _ 44 (by rfl) w.heap.size 25 (.slice none 0 0) 1 24 slok _ out1.length vs (by rfl) (own_below Ho.out (below_alloc' B5.out _)) _ 1 [.slice A9 (ln - 12) c9] (by rfl) (row_lit #[.slice A9 (ln - 12) c9] 1 rfl (by decide)) (by simp [Value.oneCell']) (by have := Hlen.out; omega) (by simp only [maxLen]; have := Hlen.out; omega) (by have := F3.out.size; have := B5.out.size; simp; omega) ?_; intro v7 w7 hown7 hg7 hat7; have O7 := hid hown7; have G7 := hid hg7; have T7 := hid hat7; have S7 := hid (And.intro (cell_frame (frame_grown hg7 (fun g e => e)) (cell_below (below_alloc _ _) S5.out.1) (fun e => by have := (Hv0.out _ e).1; have := HgP.out gP (.inl (.inl rfl)); omega)) (And.intro (cell_frame (frame_grown hg7 (fun g e => e)) (cell_below (below_alloc _ _) S5.out.2.1) (fun e => by have := (Hv0.out _ e).2; have := Hgv.out.1; omega)) (cell_frame (frame_grown hg7 (fun g e => e)) (cell_below (below_alloc _ _) S5.out.2.2) (fun e => by have := (Hv0.out _ e).2; have := Hgv.out.1; omega)))); clear hown7 hg7 hat7)
              | fail)
          all_goals
            have b24 := below_alloc' B5.out (.cells #[.slice A9 (ln - 12) c9] 25)
            have Rw7 := hid (RowsN.push (N := fun _ => False) Ho.out (fun _ _ => id) Hri.out (fun z hz => hz.elim) F3.out.size b24 (OwnBs.below X5.out (below_alloc _ _)) O7.out G7.out T7.out)
            have f37 : Frame (fun z => (u3 : Value).ownBlock = some z) w3 w7 := (Below.frameF b24 _).trans (frame_grown G7.out (fun g e => e)) (fun _ _ e => e)
            have A7 := hid (A3.out.frame f37 (fun z hz e => by have := (Hv0.out z e).1; have := HgP.out z hz; omega))
            have F7 := hid (F3.out.trans f37 (fun z hz e => by have := (Hv0.out z e).1; omega))
            have HGf := hid (show Calls Try.prog 46 #[.pointer (some ⟨gdo, 0, none⟩), .int .i64 (hd : Int), .int .i64 0] w7 _ from HGi.out w7 M1 0 A7.out (by decide))
            have c2 : w7.cell? ⟨gP, 2, none⟩ = some (.pointer (some ⟨gdo, 0, none⟩)) := A7.out.tab.cell 2
            clear b24 f37 c0 r0 r1
            go_wp2_with (go_at_call 46; refine HGf.out.mono ?_; rintro e w8 ⟨rfl, hd4, hm4, hf4⟩; have D8 := hid hd4; have M8 := hid hm4; have F8 := hid hf4; clear hd4 hm4 hf4)
            go_roundg k
            case measure => omega
            case rel => exact HBack.out _ _ HR3.out (by rw [List.length_append, List.length_singleton]; omega) w7 w8 A7.out F7.out Rw7.out F8.out D8.out M8.out
        · have Hpc := hid (show vSentOk M1 [⟨ad, ln, wb⟩] = false by
            show ((decide (26 ≤ ln) && wb == false && decide (ad + ln ≤ M1.length)) && decide (ln ≤ 1526)) = false
            by_cases h26 : 26 ≤ ln
            · rw [decide_eq_false (show ¬ ln ≤ 1526 by omega), Bool.and_false]
            · rw [decide_eq_false h26]; rfl)
          have Hli := hid hli
          have hor : ¬ (26 : Int) ≤ (ln : Int) ∨ (26 : Int) ≤ (ln : Int) ∧ ¬ (ln : Int) ≤ 1526 := by omega
          have HR3 := hid (vSent_not (k := k) (out := out1) hu Hpc.out)
          clear hli hli2 hu hl2 hp2 hb1 hbn hbx hin
          rcases hor with hl1 | ⟨hl1, hl3⟩
          all_goals
            go_wp2_with (first
              | (go_at_call 44; refine HT.out.mono ?_; rintro e w2 ⟨⟨v, rfl, hrow, hd2⟩, hf2⟩; obtain ⟨gv, cv, rfl⟩ := row_some hrow (Nat.le_refl 1); have r1 := hrow.cells (g := gv) rfl 1 _ rfl; have f2 := hid (show Frame (fun k => k = gdo ∨ k = gm) wr w2 from hf2.weaken (fun _ _ e => .inl e)); have A2 := hid (Hto.out w2 d2 hd2 hf2); have HLi := hid (vlies_at w.heap.size gP gm L [⟨ad, ln, wb⟩] _ false w2 (A2.out.tab.cell 0) (own_mono hrow (F1.out.size)) hL (by simp) (fun x hx => (Hb.out.2.2 x hx).2)); rw [Hli.out] at HLi; clear hrow hd2 hf2)
              | (go_at_call 45; refine HLi.out.mono ?_; rintro e w3 ⟨rfl, q, rfl⟩; have b3 := hid (below_drewN (Below.refl w2.heap.size w2) q); have r1 := cell_below b3.out r1; have c2 := cell_below b3.out (show w2.cell? ⟨gP, 2, none⟩ = some (.pointer (some ⟨gdo, 0, none⟩)) from A2.out.tab.cell 2); rw [add_off] at r1)
              | (go_at_call 46; refine (show Calls Try.prog 46 #[.pointer (some ⟨gdo, 0, none⟩), .int .i64 (hd : Int), .int .i64 0] (w2.drewN q) _ from HGi.out (w2.drewN q) M1 0 (A2.out.keep b3.out) (by decide)).mono ?_; rintro e w4 ⟨rfl, hd4, hm4, hf4⟩; have D4 := hid hd4; have M4 := hid hm4; have F4 := hid hf4; clear hd4 hm4 hf4))
            go_roundg k
            case measure => omega
            case rel => exact HBack.out out1 _ HR3.out (Nat.le_succ _) (w2.drewN q) w4 (A2.out.keep b3.out) ((F1.out.trans (frame_out f2.out) (fun _ _ e => e)).trans (Below.frameF b3.out _) (fun _ _ e => e)) (rows_port (rows_port Rw.out f2.out Hlt.out) (Below.frameF b3.out (fun _ => False)) (fun _ e => e.elim)) F4.out D4.out M4.out
      · have hli' : vLies L bl false = false := by simpa using hli
        have Hli := hid hli'
        have Hpc := hid (show vSentOk M1 bl = false by unfold vSentOk; rw [vPiece_lies, A1.out.len, hli']; rfl)
        have HR3 := hid (vSent_not (k := k) (out := out1) hu Hpc.out)
        clear hli hli' hu hl2 hp2 hb1 hbn hbx
        go_wp2_with (first
          | (go_at_call 44; refine HT.out.mono ?_; rintro e w2 ⟨⟨v, rfl, hrow, hd2⟩, hf2⟩; have f2 := hid (show Frame (fun k => k = gdo ∨ k = gm) wr w2 from hf2.weaken (fun _ _ e => .inl e)); have A2 := hid (Hto.out w2 d2 hd2 hf2); have HLi := hid (vlies_at w.heap.size gP gm L bl _ false w2 (A2.out.tab.cell 0) (own_mono hrow (F1.out.size)) hL (by have := Hb.out.2.1; omega) (fun x hx => (Hb.out.2.2 x hx).2)); rw [Hli.out] at HLi; clear hrow hd2 hf2)
          | (go_at_call 45; refine HLi.out.mono ?_; rintro e w3 ⟨rfl, q, rfl⟩; have b3 := hid (below_drewN (Below.refl w2.heap.size w2) q); have c2 := cell_below b3.out (show w2.cell? ⟨gP, 2, none⟩ = some (.pointer (some ⟨gdo, 0, none⟩)) from A2.out.tab.cell 2))
          | (go_at_call 46; refine (show Calls Try.prog 46 #[.pointer (some ⟨gdo, 0, none⟩), .int .i64 (hd : Int), .int .i64 0] (w2.drewN q) _ from HGi.out (w2.drewN q) M1 0 (A2.out.keep b3.out) (by decide)).mono ?_; rintro e w4 ⟨rfl, hd4, hm4, hf4⟩; have D4 := hid hd4; have M4 := hid hm4; have F4 := hid hf4; clear hd4 hm4 hf4))
        go_roundg k
        case measure => omega
        case rel => exact HBack.out out1 _ HR3.out (Nat.le_succ _) (w2.drewN q) w4 (A2.out.keep b3.out) ((F1.out.trans (frame_out f2.out) (fun _ _ e => e)).trans (Below.frameF b3.out _) (fun _ _ e => e)) (rows_port (rows_port Rw.out f2.out Hlt.out) (Below.frameF b3.out (fun _ => False)) (fun _ e => e.elim)) F4.out D4.out M4.out
end Go.Proofs.Ytgiegiobigdplaa
