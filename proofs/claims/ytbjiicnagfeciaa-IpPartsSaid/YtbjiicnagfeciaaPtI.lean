/- A packet is added: where it waits. -/
import Derived.Test.YtbjiicnagfeciaaPtH
import Derived.Deep.CutRange
namespace Go.Proofs.Ytbjiicnagfeciaa
open Go Go.RowKit
attribute [local go_sem ↓] Go.wp_at_zero Go.wp_at_succ
set_option maxRecDepth 100000

theorem pptrzero (w : World) : (zeroValue 88).run Try.prog w = .ok (.pointer none) w := by kernel_rfl
theorem ptr_nil (o : Option Nat) (w : World) : (binOp .eql 88 (ptrV o) (.pointer none)).run Try.prog w = .ok (.bool o.isNone) w := by cases o <;> kernel_rfl
theorem ptr_guard (a b : Operand) (o : Option Nat) (w : World) : (eqGuard .eql 88 a b (ptrV o) (.pointer none)).run Try.prog w = .ok () w := by cases o <;> rfl
/-- what is the case while an Add goes on: x is the one to which p belongs -/
def AddAt (w0 w : World) (base g : Nat) (l : List Wt) (m : Nat) (F : Nat → Prop) (p : Pk) (B1 : Nat) (v1 : Value) (kb : Nat) (s7 : Value) : Prop :=
  ∃ x L1 vr1 gM1 f1 F1, s7 = ptrV (some x.g) ∧ x ∈ L1 ∧ (L1.map WIt.w, x.w) = pFind l p.key ∧ PtAt w base g L1 (m + 1) vr1 gM1 f1 F1 ∧ (∀ y ∈ L1, y.qs.length ≤ m) ∧ Frame F w0 w ∧ (∀ k, F1 k → F k ∨ B1 ≤ k) ∧ Loc w0 w B1 p v1 kb

theorem pptrinfo : (Try.prog.info? 88).map (fun i => (i.zero, i.size, i.bytes)) = some (some (.pointer none), 1, 8) := by kernel_rfl
theorem pptrok : ElemOk Try.prog 82 88 (.pointer none) 1 8 := by
  obtain ⟨i, hi, hz, hs, hb⟩ := info_parts pptrinfo
  exact ⟨Try.underlying82, ⟨i, hi, hz, hs, hb⟩, rfl, by decide, by decide⟩
def ppkzero : Value := .agg #[.int .u32 0, .int .u32 0, .int .i64 0, .int .i64 0, .int .i64 0, .bool false, .bool false, .int .i64 0, .slice none 0 0]
theorem ppkfullinfo : (Try.prog.info? 25).map (fun i => (i.zero, i.size, i.bytes)) = some (some ppkzero, 9, 72) := by kernel_rfl
theorem ppkok : ElemOk Try.prog 27 25 ppkzero 9 72 := by
  obtain ⟨i, hi, hz, hs, hb⟩ := info_parts ppkfullinfo
  exact ⟨Try.underlying27, ⟨i, hi, hz, hs, hb⟩, by kernel_rfl, by decide, by decide⟩
theorem filter_first {x : WIt} {L : List WIt} (h : ((x :: L).map fun y => y.w.k).Nodup) : ((x :: L).filter fun y => !decide (y.w.k = x.w.k)) = L := by
  rw [List.map_cons, List.nodup_cons] at h
  rw [List.filter_cons, if_neg (by simp), List.filter_eq_self]
  intro y hy
  simp only [Bool.not_eq_true', decide_eq_false_iff_not]
  exact fun e => h.1 (List.mem_map.2 ⟨y, hy, e⟩)
set_option maxHeartbeats 4000000 in
theorem add_main (base g : Nat) (l : List Wt) (m : Nat) (F : Nat → Prop) (v : Value) (p : Pk) (w : World) (h : PtInv w base g l m F) (hm : m < 90000) (hb : Bs w v p.body) (hkey : p.key.Ok) (hw : ¬ (p.off = 0 ∧ p.more = false)) (hwr : pWrong p = false) :
    Calls Try.prog 21 #[.pointer (some ⟨g, 0, none⟩), .agg (pkCells p v).toArray] w (AddPost base g l m F p w) := by
  obtain ⟨L, vr, gM, f, rfl, h⟩ := h
  have H := hid h
  have hl : p.body.length ≤ 65515 := by have := pWrong_no hwr; unfold Pk.to at this; omega
  obtain ⟨kl, hkl⟩ := pkey_of p.key hkey
  have Hkl := hid hkl
  have Hkey := hid hkey
  obtain ⟨src, dst, proto, id, off, more, whole, ttl, body⟩ := p
  have Hwr := hid hwr
  obtain ⟨_, A, cap, rfl, k1, k2, _⟩ := (show RowN w 1 v body.length (body.map u8v) from hb)
  have HB := hid (show Bs w (.slice A body.length cap) body from hb)
  have hc : (off == 0) = false ∨ (off == 0) = true ∧ more = true := by
    by_cases z : off = 0
    · exact .inr ⟨by simp [z], by cases more; exact absurd ⟨z, rfl⟩ hw; rfl⟩
    · exact .inl (by simpa using z)
  have Hw := hid hw
  simp only at hl
  clear h hb k1 k2 hw hwr hkl hkey
  dsimp only [pkCells]
  go_enter Try.func21, Try.ntmps21
  go_upto_region 2 with (first | (go_at_call 30; refine (clone_any _ body _ ((HB.out.alloc _).alloc _) (by omega)).mono ?_; rintro e w1 ⟨v1, rfl, hown, hb1⟩; obtain ⟨A1, cap1, rfl⟩ := slice_len hown.bs rfl; have hpb := ((Blk.new w 25 #[.int .u32 (src : Int), .int .u32 (dst : Int), .int .i64 proto, .int .i64 id, .int .i64 off, .bool more, .bool whole, .int .i64 ttl, .slice A body.length cap]).alloc (.cells #[.int .u32 0, .int .u32 0, .int .i64 0, .int .i64 0, .int .i64 0, .bool false, .bool false, .int .i64 0, .slice none 0 0] 25)).keep hb1; have hrb := (Blk.new (w.alloc (.cells #[.int .u32 (src : Int), .int .u32 (dst : Int), .int .i64 proto, .int .i64 id, .int .i64 off, .bool more, .bool whole, .int .i64 ttl, .slice A body.length cap] 25)) 25 #[.int .u32 0, .int .u32 0, .int .i64 0, .int .i64 0, .int .i64 0, .bool false, .bool false, .int .i64 0, .slice none 0 0]).keep hb1; rw [World.size_alloc] at hrb; have Hb1 := hid ((below_alloc' (below_alloc w (.cells #[.int .u32 (src : Int), .int .u32 (dst : Int), .int .i64 proto, .int .i64 id, .int .i64 off, .bool more, .bool whole, .int .i64 ttl, .slice A body.length cap] 25)) (.cells #[.int .u32 0, .int .u32 0, .int .i64 0, .int .i64 0, .int .i64 0, .bool false, .bool false, .int .i64 0, .slice none 0 0] 25)).trans (hb1.mono (by simp; omega))); have Hsz := hid (show w.heap.size + 2 ≤ w1.heap.size from by have := hb1.size; simpa using this); have Hown := hid (show OwnBs w1 (w.heap.size + 2) 5 (.slice A1 body.length cap1) body from hown.mono (by simp)); have Hpb := hid hpb; have Hrb := hid hrb; have q4 : w1.cell? ⟨w.heap.size, 4, none⟩ = some (.int .i64 off) := hpb.cell 4; have q5 : w1.cell? ⟨w.heap.size, 5, none⟩ = some (.bool more) := hpb.cell 5; have q6 : w1.cell? ⟨w.heap.size, 6, none⟩ = some (.bool whole) := hpb.cell 6; have q8 : w1.cell? ⟨w.heap.size, 8, none⟩ = some (.slice A body.length cap) := hpb.cell 8; have z6 := hpb.frozen 6; have z8 := hpb.frozen 8; clear hown hb1 hpb hrb) | fail)
  have hpb8 := Hpb.out.set_ 8 (.slice A1 body.length cap1)
  have hrb8 := Hrb.out.far (p := ⟨w.heap.size, 8, none⟩) (by simp) (.slice A1 body.length cap1)
  have hg8 := grown_set w1 w.heap.size 8 (.slice A1 body.length cap1)
  have Hown8 := hid (ownBs_store Hown.out Hpb.out (by decide) hg8)
  have Hb8 := hid (show Below w.heap.size w _ from below_own Hb1.out hg8 (Nat.le_refl _) (by have := Hsz.out; omega))
  have Hs8 := hid (show w.heap.size + 2 ≤ (w1.setCell ⟨w.heap.size, 8, none⟩ (.slice A1 body.length cap1)).heap.size from Nat.le_trans Hsz.out hg8.size)
  have r4 : (w1.setCell ⟨w.heap.size, 8, none⟩ (.slice A1 body.length cap1)).cell? ⟨w.heap.size, 4, none⟩ = some (.int .i64 off) := hpb8.cell 4
  have r5 : (w1.setCell ⟨w.heap.size, 8, none⟩ (.slice A1 body.length cap1)).cell? ⟨w.heap.size, 5, none⟩ = some (.bool more) := hpb8.cell 5
  have Hpb8 := hid hpb8
  have Hrb8 := hid hrb8
  clear hg8 hpb8 hrb8 q4 q5 q6 q8 z6 z8 Hpb Hrb Hown Hb1 Hsz
  generalize w1.setCell ⟨w.heap.size, 8, none⟩ (.slice A1 body.length cap1) = w8 at *
  go_cut [21] from 14 to 21 (fun s21 wx => s21 = .bool false ∧ wx = w8)
  case first =>
    rcases hc with hc | ⟨hc, rfl⟩
    all_goals
      go_wp2_with fail
      go_meet
      case rel => exact ⟨rfl, rfl⟩
  case rest =>
  obtain ⟨rfl, rfl⟩ := hcut
  have HW := fun wx (y : Bs wx (.slice A1 body.length cap1) body) => wrong_any (.slice A1 body.length cap1) ⟨src, dst, proto, id, off, more, whole, ttl, body⟩ wx y
  simp only [Hwr.out] at HW
  dsimp only [pkCells] at HW
  go_upto_region 7 with (first
      | ((with_reducible show wpList _ _ _ (Oper.mk (some 24) _ _ _ _ _ :: _) _ _); refine wpList_loadBlk rfl _ _ rfl _ rfl _ _ _ Hpb8.out Try.underlying25 pkinfo ?_)
      | (go_at_call 36; (with_reducible refine (HW _ Hown8.out.bs).mono ?_); rintro e w2 ⟨rfl, hb2⟩; have Hb2 := hid hb2; clear hb2)
      | fail)
  have hpb9 := Hpb8.out.keep Hb2.out
  have hrb9 := Hrb8.out.keep Hb2.out
  have hown9 := Hown8.out.below Hb2.out
  have hb9 : Below w.heap.size w w2 := Hb8.out.trans (Hb2.out.mono Hb8.out.size)
  have hs9 : w.heap.size + 2 ≤ w2.heap.size := Nat.le_trans Hs8.out Hb2.out.size
  have k0 : w2.cell? ⟨w.heap.size, 0, none⟩ = some (.int .u32 (src : Int)) := hpb9.cell 0
  have k1 : w2.cell? ⟨w.heap.size, 1, none⟩ = some (.int .u32 (dst : Int)) := hpb9.cell 1
  have k2 : w2.cell? ⟨w.heap.size, 2, none⟩ = some (.int .i64 proto) := hpb9.cell 2
  have k3 : w2.cell? ⟨w.heap.size, 3, none⟩ = some (.int .i64 id) := hpb9.cell 3
  have hkb := Blk.new w2 87 #[.int .u32 (src : Int), .int .u32 (dst : Int), .int .i64 proto, .int .i64 id]
  have LOC := hid (show Loc w (w2.alloc (.cells #[.int .u32 (src : Int), .int .u32 (dst : Int), .int .i64 proto, .int .i64 id] 87)) (w2.heap.size + 1) (⟨src, dst, proto, id, off, more, whole, ttl, body⟩ : Pk) (.slice A1 body.length cap1) w2.heap.size from
    ⟨hpb9.alloc _, hrb9.alloc _, hkb, hown9.alloc _, fun k hk => ⟨(own_at hown9 hk).1, Nat.lt_succ_of_lt (own_at hown9 hk).2⟩, hs9, Nat.lt_succ_self _⟩)
  have HBz := hid (below_alloc' hb9 (.cells #[.int .u32 (src : Int), .int .u32 (dst : Int), .int .i64 proto, .int .i64 id] 87))
  have Kz := hid (H.out.keep HBz.out)
  have HB1 := hid (show w.heap.size + 3 ≤ w2.heap.size + 1 from by omega)
  have HBs := hid (show (w2.alloc (.cells #[.int .u32 (src : Int), .int .u32 (dst : Int), .int .i64 proto, .int .i64 id] 87)).heap.size = w2.heap.size + 1 by simp)
  clear hpb9 hrb9 hown9 hb9 hs9 Hpb8 Hrb8 Hown8 Hb2 Hb8 Hs8 r4 r5 HW hkb
  go_upto_region 8 with (fail)
  obtain ⟨kb, hkbn⟩ : ∃ kb, w2.heap.size = kb := ⟨_, rfl⟩
  rw [hkbn] at LOC HB1 HBs ⊢
  generalize w2.alloc (.cells #[.int .u32 (src : Int), .int .u32 (dst : Int), .int .i64 proto, .int .i64 id] 87) = wz at LOC HBz Kz HBs ⊢
  have g1 : wz.cell? ⟨g, 1, none⟩ = some (.map (some gM)) := Kz.out.tab.cell 1
  have y0 : wz.cell? ⟨kb, 0, none⟩ = some (.int .u32 (src : Int)) := LOC.out.kc.cell 0
  have y1 : wz.cell? ⟨kb, 1, none⟩ = some (.int .u32 (dst : Int)) := LOC.out.kc.cell 1
  have y2 : wz.cell? ⟨kb, 2, none⟩ = some (.int .i64 proto) := LOC.out.kc.cell 2
  have y3 : wz.cell? ⟨kb, 3, none⟩ = some (.int .i64 id) := LOC.out.kc.cell 3
  obtain ⟨o, ho⟩ : ∃ o, f (PKey.val ⟨src, dst, proto, id⟩) = o := ⟨_, rfl⟩
  have hlook : ∀ q, (Instr.lookup 81 (.map (some gM)) (.agg #[.int .u32 (src : Int), .int .u32 (dst : Int), .int .i64 proto, .int .i64 id]) false).run Try.prog (wz.drewN q) = .ok (ptrV o) (wz.drewN q) := fun q => by
    have := (Kz.out.map.drewN q).look pkeyed Try.underlying81 (pptrzero _) Hkl.out
    rw [show (Pk.key (⟨src, dst, proto, id, off, more, whole, ttl, body⟩ : Pk)).val = PKey.val ⟨src, dst, proto, id⟩ from rfl, ho] at this
    exact this
  have Ho := hid ho
  clear ho k0 k1 k2 k3 hkbn
  go_quiet (fail)
  have LOCq := hid (LOC.out.keep (below_drewN (Below.refl _ _) nq))
  have HBq := hid (below_drewN HBz.out nq)
  have Kq := hid (Kz.out.keep (below_drewN (Below.refl _ _) nq))
  have HBs2 := hid (show (wz.drewN nq).heap.size = kb + 1 from HBs.out)
  have hnil := ptr_nil o
  have hgrd := fun a b => ptr_guard a b o
  clear LOC HBz Kz g1 y0 y1 y2 y3 hlook HBs
  generalize wz.drewN nq = wa at *
  go_upto_if 43 with fail
  go_cut [7] from 43 to 76 (fun s7 wx => AddAt w wx base g (L.map WIt.w) m F (⟨src, dst, proto, id, off, more, whole, ttl, body⟩ : Pk) (kb + 1) (.slice A1 body.length cap1) kb s7)
  case first =>
    cases o with
    | some gx =>
      obtain ⟨x, hx, hxk⟩ : ∃ x ∈ L, x.w.k = ⟨src, dst, proto, id⟩ := Classical.byContradiction fun hn => by
        have := Kq.out.miss ⟨src, dst, proto, id⟩ (fun x hx e => hn ⟨x, hx, e⟩)
        rw [Ho.out] at this
        cases this
      have hgx : x.g = gx := by
        have := Kq.out.hit x hx
        rw [hxk, Ho.out] at this
        injection this with this
        exact this.symm
      have hfin : AddAt w wa base g (L.map WIt.w) m F (⟨src, dst, proto, id, off, more, whole, ttl, body⟩ : Pk) (kb + 1) (.slice A1 body.length cap1) kb (ptrV (some gx)) := by
        refine ⟨x, L, vr, gM, f, F, by rw [hgx], hx, ?_, ⟨Kq.out.tab, Kq.out.row, Kq.out.map.mono (Nat.le_succ m), Kq.out.it, Kq.out.apart, Kq.out.hit, Kq.out.miss, Kq.out.ok, fun y hy => Nat.le_succ_of_le (Kq.out.few y hy), Kq.out.fg, Kq.out.fM, Kq.out.fr, Kq.out.flt⟩, Kq.out.few, Below.frameF HBq.out F, fun k hk => .inl hk, LOCq.out⟩
        unfold pFind
        have : (L.map WIt.w).find? (fun y => decide (y.k = Pk.key (⟨src, dst, proto, id, off, more, whole, ttl, body⟩ : Pk))) = some x.w := by
          cases e : (L.map WIt.w).find? (fun y => decide (y.k = Pk.key (⟨src, dst, proto, id, off, more, whole, ttl, body⟩ : Pk))) with
          | none => exact absurd (decide_eq_true hxk) (List.find?_eq_none.1 e x.w (List.mem_map_of_mem hx))
          | some y =>
            have h1 := List.find?_some e
            obtain ⟨z, hz, rfl⟩ := List.mem_map.1 (List.mem_of_find?_eq_some e)
            have h1 : z.w.k = ⟨src, dst, proto, id⟩ := of_decide_eq_true h1
            rw [H.out.one hx hz (.inl (h1.trans hxk.symm))]
        rw [this]
      have Hfin := hid hfin
      clear hx hxk hgx hfin hnil hgrd
      unfold ptrV at Hfin ⊢
      go_wp2_with fail
      go_meet
      case rel => exact Hfin.out
    | none =>
      have hmiss : ∀ x ∈ L, x.w.k ≠ ⟨src, dst, proto, id⟩ := fun x hx e => by
        have := Kq.out.hit x hx
        rw [e, Ho.out] at this
        cases this
      have Hmiss := hid hmiss
      clear hnil hgrd hmiss
      have g0 : wa.cell? ⟨g, 0, none⟩ = some vr := Kq.out.tab.cell 0
      obtain ⟨_, R, capR, hvr, hcR1, hcR2, hcR⟩ := Kq.out.row.rowN
      have Hvr := hid hvr
      have HcR := hid hcR
      rw [hvr] at g0
      have hcR2' : capR ≤ 9223372036854775807 := by simp only [maxLen] at hcR2; omega
      have hlL : L.length ≤ 4 := by have := Kq.out.ok.len; simpa using this
      unfold ptrV
      clear hvr hcR hcR2
      go_upto_if 49 with fail
      go_cut [] from 49 to 57 (fun wx => ∃ L0 vr0 f0, L0 = (if L.length = 4 then L.drop 1 else L) ∧ PtAt wx base g L0 m vr0 gM f0 F ∧ Frame F wa wx)
      case first =>
        by_cases h4 : L.length = 4
        · have h4b : ((L.length : Int) == 4) = true := by simp [h4]
          obtain ⟨x0, rest, hL⟩ : ∃ x0 rest, L = x0 :: rest := by
            match L, h4 with
            | x0 :: rest, _ => exact ⟨x0, rest, rfl⟩
          have HR := hid (show (if L.length = 4 then L.drop 1 else L) = rest by rw [if_pos h4, hL]; rfl)
          have hx0 : x0 ∈ L := by rw [hL]; exact List.mem_cons_self ..
          have HLo := lose_at base g L m vr gM f F x0 hx0 wa Kq.out
          have hff : (L.filter fun y => !decide (y.w.k = x0.w.k)) = rest := by
            have hk := Kq.out.ok.keys
            rw [List.map_map] at hk
            rw [hL] at hk ⊢
            exact filter_first hk
          rw [hff] at HLo
          unfold ptrV at HLo
          have HLo := hid HLo
          obtain ⟨gr, off0, rfl, hcr⟩ : ∃ gr off, R = some ⟨gr, off, none⟩ ∧ wa.cell? ⟨gr, off, none⟩ = some (.pointer (some ⟨x0.g, 0, none⟩)) := by
            rcases HcR.out with h0 | ⟨gr, off, rfl, hc⟩
            · omega
            · exact ⟨gr, off, rfl, hc 0 _ (by rw [hL]; rfl)⟩
          have h0L : (0 : Int) < (L.length : Int) := by omega
          clear hff hx0 hL h4
          go_wp2_with (first | (go_at_call 37; refine HLo.out.mono ?_; rintro e w6 ⟨⟨u, rfl⟩, vr', f', hk6, hfr6⟩; have Hk6 := hid (And.intro hk6 hfr6); clear hk6 hfr6) | fail)
          go_meet
          case rel => exact ⟨rest, _, _, HR.out.symm, Hk6.out.1, Hk6.out.2⟩
        · have h4b : ((L.length : Int) == 4) = false := by simp; omega
          have Hr := hid (show ∃ L0 vr0 f0, L0 = (if L.length = 4 then L.drop 1 else L) ∧ PtAt wa base g L0 m vr0 gM f0 F ∧ Frame F wa wa from ⟨L, vr, f, by rw [if_neg h4], Kq.out, Frame.refl _ _⟩)
          go_wp2_with fail
          go_meet
          case rel => exact Hr.out
      case rest =>
      obtain ⟨L0, vr0, f0, hL0, K0, hfr⟩ := hcut
      have hL0l : L0.length < 4 := by
        rw [hL0]
        split
        · rename_i h4
          rw [List.length_drop, h4]; omega
        · rename_i h4
          omega
      have hmiss0 : ∀ y ∈ L0, y.w.k ≠ ⟨src, dst, proto, id⟩ := fun y hy => Hmiss.out y (by
        rw [hL0] at hy
        split at hy
        · exact List.mem_of_mem_drop hy
        · exact hy)
      have HL0 := hid hL0
      have Hm0 := hid hmiss0
      have LOC0 := hid (LOCq.out.frame hfr (fun k hk => .inl (H.out.flt k hk).2))
      have Hfr := hid hfr
      have K := hid K0
      have Hgs := hid (show kb + 1 ≤ wc.heap.size by rw [← HBs2.out]; exact hfr.size)
      have y0 : wc.cell? ⟨kb, 0, none⟩ = some (.int .u32 (src : Int)) := LOC0.out.kc.cell 0
      have y1 : wc.cell? ⟨kb, 1, none⟩ = some (.int .u32 (dst : Int)) := LOC0.out.kc.cell 1
      have y2 : wc.cell? ⟨kb, 2, none⟩ = some (.int .i64 proto) := LOC0.out.kc.cell 2
      have y3 : wc.cell? ⟨kb, 3, none⟩ = some (.int .i64 id) := LOC0.out.kc.cell 3
      have hbl := below_alloc' (below_alloc wc (.cells #[.int .u32 (src : Int), .int .u32 (dst : Int), .int .i64 proto, .int .i64 id, .slice none 0 0, .int .i64 (-1), .int .i64 0] 91)) (.cells #[.pointer (some ⟨wc.heap.size, 0, none⟩)] 88)
      have Hbl := hid hbl
      have K2 := hid (K0.keep hbl)
      have g0a : (wc.alloc (.cells #[.int .u32 (src : Int), .int .u32 (dst : Int), .int .i64 proto, .int .i64 id, .slice none 0 0, .int .i64 (-1), .int .i64 0] 91)).cell? ⟨g, 0, none⟩ = some vr0 := (K0.keep (below_alloc wc (.cells #[.int .u32 (src : Int), .int .u32 (dst : Int), .int .i64 proto, .int .i64 id, .slice none 0 0, .int .i64 (-1), .int .i64 0] 91))).tab.cell 0
      have g0 : ((wc.alloc (.cells #[.int .u32 (src : Int), .int .u32 (dst : Int), .int .i64 proto, .int .i64 id, .slice none 0 0, .int .i64 (-1), .int .i64 0] 91)).alloc (.cells #[.pointer (some ⟨wc.heap.size, 0, none⟩)] 88)).cell? ⟨g, 0, none⟩ = some vr0 := K2.out.tab.cell 0
      have hbase : base ≤ wc.heap.size + 2 := by have := K0.flt _ K0.fg; omega
      have Hbase := hid hbase
      clear hL0 K0 hfr hmiss0 hbl Hvr HcR hcR1 hbase
      go_wp2_with (first
        | ((with_reducible show wpList _ _ _ (Oper.mk (some 68) _ _ _ _ _ :: _) _ _); refine wpList_app_atS rfl _ _ 82 rfl base 88 (.pointer none) 1 8 pptrok vr0 L0.length (L0.map WIt.ptr) rfl K2.out.row (.slice (some ⟨wc.heap.size + 1, 0, none⟩) 1 1) 1 [.pointer (some ⟨wc.heap.size, 0, none⟩)] rfl (rowS_lit 1 #[.pointer (some ⟨wc.heap.size, 0, none⟩)] 1 _ rfl (by simp) (by simp [maxLen])) (by simp [Value.oneCell']) (by decide) (by omega) (by simp only [maxLen]; omega) (by simpa using Hbase.out) ?_; intro v6 w6 hr6 hg6 hv6; have htab := K2.out.tab.grown hg6 (fun e => K2.out.row.ne K2.out.tab (by decide) e.symm); have t0 : w6.cell? ⟨g, 0, none⟩ = some vr0 := htab.cell 0; have z0 := htab.frozen 0; have Htab := hid htab; have Hr6 := hid hr6; have Hg6 := hid hg6; have Hv6 := hid hv6; obtain ⟨A6, cap6, rfl⟩ : ∃ A c, v6 = .slice A (L0.length + 1) c := (by obtain ⟨_, A, c, h, _⟩ := hr6.rowN; exact ⟨A, c, h⟩); clear htab hr6 hg6 hv6)
        | fail)
      have hgs := grown_set w6 g 0 (.slice A6 (L0.length + 1) cap6)
      have tab7 := Htab.out.set_ 0 (.slice A6 (L0.length + 1) cap6)
      have row7 : RowAtS (w6.setCell ⟨g, 0, none⟩ (.slice A6 (L0.length + 1) cap6)) base 88 1 (.slice A6 (L0.length + 1) cap6) (L0.length + 1) (L0.map WIt.ptr ++ [.pointer (some ⟨wc.heap.size, 0, none⟩)]) :=
        Hr6.out.same fun k hk => hgs.block k (Hr6.out.lt hk).2 (fun e => by injection e with e; subst e; exact Hr6.out.ne Htab.out (by decide) hk)
      have hmap6 : MapIs Try.prog 87 w6 gM m f0 := K2.out.map.block (Hg6.out.block gM K2.out.map.lt (fun e => by
        obtain ⟨cur, hcur⟩ := K2.out.row.blk e.symm
        exact K2.out.map.ne hcur rfl))
      have map7 : MapIs Try.prog 87 (w6.setCell ⟨g, 0, none⟩ (.slice A6 (L0.length + 1) cap6)) gM m f0 := hmap6.block (hgs.block gM hmap6.lt (fun e => hmap6.ne Htab.out (by injection e)))
      have its7 : ∀ y ∈ L0, ItAt (w6.setCell ⟨g, 0, none⟩ (.slice A6 (L0.length + 1) cap6)) base y F := fun y hy => ((K2.out.it y hy).rowed K2.out.row Hg6.out (by decide)).other (frame_one hgs) (blk_types Htab.out (by decide))
      have hwn : ∀ k, F k → k ≠ wc.heap.size := fun k hk e => by have := (K.out.flt k hk).2; omega
      have xn7 : Blk (w6.setCell ⟨g, 0, none⟩ (.slice A6 (L0.length + 1) cap6)) wc.heap.size 91 (wCells ⟨src, dst, proto, id⟩ (.slice none 0 0) (-1) 0) :=
        (((Blk.new wc 91 #[.int .u32 (src : Int), .int .u32 (dst : Int), .int .i64 proto, .int .i64 id, .slice none 0 0, .int .i64 (-1), .int .i64 0]).alloc (.cells #[.pointer (some ⟨wc.heap.size, 0, none⟩)] 88)).grown Hg6.out (fun e => hwn _ (K.out.fr _ e.symm) rfl)).far (fun e => hwn _ K.out.fg e.symm) _
      have fr7 : Frame F wc (w6.setCell ⟨g, 0, none⟩ (.slice A6 (L0.length + 1) cap6)) := ((Below.frameF Hbl.out F).trans (frame_grown Hg6.out (F := F) (fun k hk => K.out.fr k hk)) (fun _ _ h => h)).trans (frame_grown hgs (F := F) (fun k hk => by injection hk with hk; subst hk; exact K.out.fg)) (fun _ _ h => h)
      have hsz7 : wc.heap.size + 2 ≤ (w6.setCell ⟨g, 0, none⟩ (.slice A6 (L0.length + 1) cap6)).heap.size := by have h1 := hgs.size; have h2 := Hg6.out.size; simp only [World.size_alloc] at h2; omega
      have hv7 : ∀ k, (Value.slice A6 (L0.length + 1) cap6).ownBlock = some k → F k ∨ k = wc.heap.size + 2 := fun k hk => by
        rcases Hv6.out with q | q
        · exact .inl (K.out.fr k (by rw [← q]; exact hk))
        · rw [q] at hk
          injection hk with hk
          simp only [World.size_alloc] at hk
          exact .inr hk.symm
      have LOC7 := hid (LOC0.out.frame fr7 (fun k hk => .inl (H.out.flt k hk).2))
      have FR7 := hid ((Below.frameF HBq.out F).trans (Hfr.out.trans fr7 (fun _ _ h => h)) (fun _ _ h => h))
      have T7 := hid tab7
      have R7 := hid row7
      have M7 := hid map7
      have I7 := hid its7
      have X7 := hid xn7
      have V7 := hid hv7
      have S7 := hid hsz7
      clear hgs tab7 row7 hmap6 map7 its7 hwn xn7 fr7 hv7 hsz7 g0 g0a t0 z0 Hr6 Htab Hg6 Hv6 y0 y1 y2 y3
      generalize w6.setCell ⟨g, 0, none⟩ (.slice A6 (L0.length + 1) cap6) = w7 at *
      have g1 : w7.cell? ⟨g, 1, none⟩ = some (.map (some gM)) := T7.out.cell 1
      have y0 : w7.cell? ⟨kb, 0, none⟩ = some (.int .u32 (src : Int)) := LOC7.out.kc.cell 0
      have y1 : w7.cell? ⟨kb, 1, none⟩ = some (.int .u32 (dst : Int)) := LOC7.out.kc.cell 1
      have y2 : w7.cell? ⟨kb, 2, none⟩ = some (.int .i64 proto) := LOC7.out.kc.cell 2
      have y3 : w7.cell? ⟨kb, 3, none⟩ = some (.int .i64 id) := LOC7.out.kc.cell 3
      obtain ⟨w9, hrun, hm9, hg9⟩ := M7.out.drew.put pkeyed Try.underlying81 (by simp only [maxLen]; omega) Hkl.out wc.heap.size
      have Hm9 := hid hm9
      have Hg9 := hid (grown_trans (grown_drew w7 _) hg9)
      rw [show (Pk.key (⟨src, dst, proto, id, off, more, whole, ttl, body⟩ : Pk)).val = (.agg #[.int .u32 (src : Int), .int .u32 (dst : Int), .int .i64 proto, .int .i64 id]) from rfl] at hrun
      unfold ptrV at hrun
      clear hm9 hg9
      have hfin : AddAt w w9 base g (L.map WIt.w) m F (⟨src, dst, proto, id, off, more, whole, ttl, body⟩ : Pk) (kb + 1) (.slice A1 body.length cap1) kb (.pointer (some ⟨wc.heap.size, 0, none⟩)) := by
        have hmne : ∀ {q t xs}, Blk w7 q t xs → some q ≠ some gM := fun hb e => by injection e with e; exact M7.out.ne hb e.symm
        have hFM := K.out.fM
        have frM := frame_grown Hg9.out (F := F) (fun k hk => by injection hk with hk; subst hk; exact hFM)
        have hgw : ∀ y ∈ L0, y.g ≠ wc.heap.size := fun y hy e => by have := (K.out.it y hy).blk.lt; omega
        have hkeyv : ∀ y ∈ L0, y.w.k.val ≠ (Pk.key (⟨src, dst, proto, id, off, more, whole, ttl, body⟩ : Pk)).val := fun y hy e => Hm0.out y hy (PKey.val_inj e)
        have hfind : pFind (L.map WIt.w) (Pk.key (⟨src, dst, proto, id, off, more, whole, ttl, body⟩ : Pk)) = ((L0 ++ [(⟨⟨⟨src, dst, proto, id⟩, [], -1, 0⟩, wc.heap.size, .slice none 0 0, []⟩ : WIt)]).map WIt.w, ⟨⟨src, dst, proto, id⟩, [], -1, 0⟩) := by
          unfold pFind
          have : (L.map WIt.w).find? (fun y => decide (y.k = Pk.key (⟨src, dst, proto, id, off, more, whole, ttl, body⟩ : Pk))) = none := List.find?_eq_none.2 fun y hy => by
            obtain ⟨z, hz, rfl⟩ := List.mem_map.1 hy
            rw [decide_eq_true_eq]
            exact Hmiss.out z hz
          rw [this]
          have e2 : (if (L.map WIt.w).length = 4 then (L.map WIt.w).drop 1 else L.map WIt.w) = L0.map WIt.w := by
            rw [HL0.out, List.length_map]
            split
            · rw [List.map_drop]
            · rfl
          show (_ ++ [_], _) = _
          rw [e2, List.map_append]
          rfl
        refine ⟨(⟨⟨⟨src, dst, proto, id⟩, [], -1, 0⟩, wc.heap.size, .slice none 0 0, []⟩ : WIt), L0 ++ [(⟨⟨⟨src, dst, proto, id⟩, [], -1, 0⟩, wc.heap.size, .slice none 0 0, []⟩ : WIt)], .slice A6 (L0.length + 1) cap6, gM, upd f0 (Pk.key (⟨src, dst, proto, id, off, more, whole, ttl, body⟩ : Pk)).val (some wc.heap.size), fun k => F k ∨ k = wc.heap.size ∨ (Value.slice A6 (L0.length + 1) cap6).ownBlock = some k, rfl, by simp, hfind.symm, ?_, ?_, FR7.out.trans frM (fun _ _ h => h), ?_, LOC7.out.frame frM (fun k hk => .inl (H.out.flt k hk).2)⟩
        · refine ⟨T7.out.grown Hg9.out (hmne T7.out), ?_, Hm9.out, ?_, ?_, ?_, ?_, ⟨?_, ?_, ?_⟩, ?_, .inl K.out.fg, .inl hFM, ?_, ?_⟩
          · have : (L0 ++ [(⟨⟨⟨src, dst, proto, id⟩, [], -1, 0⟩, wc.heap.size, .slice none 0 0, []⟩ : WIt)]).length = L0.length + 1 := by simp
            rw [this, List.map_append]
            refine R7.out.same fun k hk => Hg9.out.block k (R7.out.lt hk).2 (fun e => ?_)
            obtain ⟨cur, hcur⟩ := R7.out.blk hk
            exact hmne hcur e
          · intro y hy
            rcases List.mem_append.1 hy with hy | hy
            · exact ((I7.out y hy).other (frame_one Hg9.out) (map_types M7.out)).weaken (fun k hk => .inl hk)
            · simp at hy
              subst hy
              exact ⟨X7.out.grown Hg9.out (hmne X7.out), RowAtS.nil _ _ _ _, fun q hq => (by cases hq), rfl, .inr (.inl rfl), fun k hk => (by simp [Value.ownBlock] at hk), fun q hq => (by cases hq)⟩
          · rw [List.pairwise_append]
            refine ⟨K.out.apart, List.pairwise_singleton _ _, fun y hy z hz => ?_⟩
            simp at hz
            subst hz
            exact ⟨hgw y hy, fun k _ => by simp [Value.ownBlock]⟩
          · intro y hy
            unfold upd
            rcases List.mem_append.1 hy with hy | hy
            · rw [if_neg (hkeyv y hy)]; exact K.out.hit y hy
            · simp at hy
              subst hy
              exact if_pos rfl
          · intro k hk
            have hne : k.val ≠ (Pk.key (⟨src, dst, proto, id, off, more, whole, ttl, body⟩ : Pk)).val := fun e => hk (⟨⟨⟨src, dst, proto, id⟩, [], -1, 0⟩, wc.heap.size, .slice none 0 0, []⟩ : WIt) (by simp) (PKey.val_inj e).symm
            unfold upd
            rw [if_neg hne]
            exact K.out.miss k fun y hy => hk y (by simp [hy])
          · intro y hy
            obtain ⟨z, hz, rfl⟩ := List.mem_map.1 hy
            rcases List.mem_append.1 hz with hz | hz
            · exact K.out.ok.it _ (List.mem_map_of_mem hz)
            · simp at hz
              subst hz
              exact wt_new _ Hkey.out
          · rw [List.map_append, List.map_append, List.nodup_append]
            refine ⟨K.out.ok.keys, by simp, fun a ha b hb => ?_⟩
            simp at hb
            subst hb
            obtain ⟨z, hz, rfl⟩ := List.mem_map.1 ha
            obtain ⟨y, hy, rfl⟩ := List.mem_map.1 hz
            exact Hm0.out y hy
          · rw [List.length_map, List.length_append]
            simp
            omega
          · intro y hy
            rcases List.mem_append.1 hy with hy | hy
            · exact Nat.le_succ_of_le (K.out.few y hy)
            · simp at hy
              subst hy
              exact Nat.zero_le _
          · exact fun k hk => .inr (.inr hk)
          · intro k hk
            have hs9 := Hg9.out.size
            have hbg := K.out.flt _ K.out.fg
            have h7 := S7.out
            rcases hk with hk | rfl | hk
            · have := K.out.flt k hk; omega
            · omega
            · have := R7.out.lt hk; omega
        · intro y hy
          rcases List.mem_append.1 hy with hy | hy
          · exact K.out.few y hy
          · simp at hy
            subst hy
            exact Nat.zero_le _
        · intro k hk
          have := Hgs.out
          rcases hk with hk | rfl | hk
          · exact .inl hk
          · exact .inr this
          · rcases V7.out k hk with q | q
            · exact .inl q
            · exact .inr (by omega)
      have Hfin := hid hfin
      clear hfin
      go_region_law (fail)
      all_goals
        go_wp2_with fail
        go_meet
        case rel => exact Hfin.out
  case rest =>
  obtain ⟨x, L1, vr1, gM1, f1, F1, rfl, hx, hpf, hK, hfew, hfr, hF1, hloc⟩ := hcut
  have hxk := pFind_key hpf
  have hok := hK.ok.it x.w (List.mem_map_of_mem hx)
  obtain ⟨bs, hbs⟩ : ∃ z, pBeside x.w.parts x.w.fin (⟨src, dst, proto, id, off, more, whole, ttl, body⟩ : Pk) = z := ⟨_, rfl⟩
  have Hp := hid (show pAdd (L.map WIt.w) (⟨src, dst, proto, id, off, more, whole, ttl, body⟩ : Pk) = if bs = 1 then (L1.map WIt.w, pkZero, 19) else if bs = 2 then (pLose (L1.map WIt.w) (Pk.key (⟨src, dst, proto, id, off, more, whole, ttl, body⟩ : Pk)), pkZero, 15) else
      if (pWhole (pMore x.w (⟨src, dst, proto, id, off, more, whole, ttl, body⟩ : Pk)).k (pMore x.w (⟨src, dst, proto, id, off, more, whole, ttl, body⟩ : Pk)).parts (pMore x.w (⟨src, dst, proto, id, off, more, whole, ttl, body⟩ : Pk)).fin).2 then (pLose (pSet (L1.map WIt.w) (pMore x.w (⟨src, dst, proto, id, off, more, whole, ttl, body⟩ : Pk))) (Pk.key (⟨src, dst, proto, id, off, more, whole, ttl, body⟩ : Pk)), (pWhole (pMore x.w (⟨src, dst, proto, id, off, more, whole, ttl, body⟩ : Pk)).k (pMore x.w (⟨src, dst, proto, id, off, more, whole, ttl, body⟩ : Pk)).parts (pMore x.w (⟨src, dst, proto, id, off, more, whole, ttl, body⟩ : Pk)).fin).1, 0) else (pSet (L1.map WIt.w) (pMore x.w (⟨src, dst, proto, id, off, more, whole, ttl, body⟩ : Pk)), pkZero, 19) by
    unfold pAdd
    rw [if_neg Hw.out, Hwr.out, if_neg (by simp), ← hpf]
    simp only [hbs])
  have HBS := beside_at base x F1 (.slice A1 body.length cap1) (⟨src, dst, proto, id, off, more, whole, ttl, body⟩ : Pk) wc (hK.it x hx) hok Hwr.out (Nat.le_trans (hfew x hx) (by omega)) hloc.b.bs
  rw [hbs] at HBS
  dsimp only [pkCells] at HBS
  unfold ptrV at HBS
  have HBS := hid HBS
  have K := hid hK
  have Hx := hid hx
  have Hxk := hid hxk
  have Hok := hid hok
  have Hfew := hid hfew
  have Hfr := hid hfr
  have HF1 := hid hF1
  have LOC1 := hid hloc
  have Hbs := hid hbs
  have HF := hid (fun k (hk : F k) => (H.out.flt k hk).2)
  have HF1r := hid (show ∀ k, F1 k → k ≠ w.heap.size + 1 from fun k hk e => by
    have h1 := hloc.kb
    rcases hF1 k hk with q | q
    · have := (H.out.flt k q).2; omega
    · omega)
  clear hx hpf hK hfew hfr hF1 hloc hxk hok hbs LOCq HBq Kq HBs2 Ho hnil hgrd
  rw [show ptrV (some x.g) = .pointer (some ⟨x.g, 0, none⟩) from rfl]
  by_cases hb1 : bs = 1
  · subst hb1
    have Hp1 := hid (show pAdd (L.map WIt.w) (⟨src, dst, proto, id, off, more, whole, ttl, body⟩ : Pk) = (L1.map WIt.w, pkZero, 19) by rw [Hp.out, if_pos rfl])
    go_wp2_with (first
      | ((with_reducible show wpList _ _ _ (Oper.mk (some 78) _ _ _ _ _ :: _) _ _); refine wpList_loadBlk rfl _ _ rfl _ rfl _ _ _ LOC1.out.pc Try.underlying25 pkinfo ?_)
      | (go_at_call 38; refine HBS.out.mono ?_; rintro e w2 ⟨rfl, hb2⟩; have Hb2 := hid hb2; clear hb2)
      | ((with_reducible show wpList _ _ _ (Oper.mk none _ _ _ _ _ :: _) _ _); refine wpList_storeBlk rfl _ _ _ rfl _ _ rfl rfl _ _ (LOC1.out.rc.keep Hb2.out) pkinfo rfl rfl ?_; intro w9 hblk9 hg9 hsz9; have Hblk9 := hid hblk9; have Hg9 := hid hg9; clear hblk9 hg9 hsz9)
      | fail)
    refine ret_cell2 rfl (w.heap.size + 1) 25 _ _ rfl Hblk9.out Try.underlying25 pkinfo _ rfl rfl ?_
    unfold AddPost
    rw [Hp1.out]
    refine ⟨.slice none 0 0, rfl, OwnBs.nil _ _ _, F1, ⟨L1, vr1, gM1, f1, rfl, (K.out.keep Hb2.out).same (frame_one Hg9.out) HF1r.out⟩, ?_, fun k hk => ?_⟩
    · exact (Hfr.out.trans (Below.frameF Hb2.out F) (fun _ _ h => h)).trans (frame_one Hg9.out) (fun i hi q => by omega)
    · rcases HF1.out k hk with q | q
      · exact .inl q
      · exact .inr (by have := LOC1.out.kb; omega)
  by_cases hb2 : bs = 2
  · subst hb2
    have Hp1 := hid (show pAdd (L.map WIt.w) (⟨src, dst, proto, id, off, more, whole, ttl, body⟩ : Pk) = (pLose (L1.map WIt.w) (Pk.key (⟨src, dst, proto, id, off, more, whole, ttl, body⟩ : Pk)), pkZero, 15) by rw [Hp.out, if_neg hb1, if_pos rfl])
    clear hb1
    have HLo := fun wx (y : Below wc.heap.size wc wx) => lose_at base g L1 (m + 1) vr1 gM1 f1 F1 x Hx.out wx (K.out.keep y)
    unfold ptrV at HLo
    have HLo := hid HLo
    go_wp2_with (first
      | ((with_reducible show wpList _ _ _ (Oper.mk (some 78) _ _ _ _ _ :: _) _ _); refine wpList_loadBlk rfl _ _ rfl _ rfl _ _ _ LOC1.out.pc Try.underlying25 pkinfo ?_)
      | (go_at_call 38; refine HBS.out.mono ?_; rintro e w2 ⟨rfl, hb2⟩; have Hb2 := hid hb2; clear hb2)
      | (go_at_call 37; refine (HLo.out _ Hb2.out).mono ?_; rintro e w6 ⟨⟨u, rfl⟩, vr', f', hk6, hfr6⟩; have Hk6 := hid hk6; have Hfr6 := hid hfr6; have hrc6 := ((LOC1.out.keep Hb2.out).frame hfr6 (fun k hk => by rcases HF1.out k hk with q | q; exact .inl (HF.out k q); exact .inr q)).rc; have Hrc6 := hid hrc6; clear hk6 hfr6 hrc6)
      | ((with_reducible show wpList _ _ _ (Oper.mk none _ _ _ _ _ :: _) _ _); refine wpList_storeBlk rfl _ _ _ rfl _ _ rfl rfl _ _ Hrc6.out pkinfo rfl rfl ?_; intro w9 hblk9 hg9 hsz9; have Hblk9 := hid hblk9; have Hg9 := hid hg9; clear hblk9 hg9 hsz9)
      | fail)
    refine ret_cell2 rfl (w.heap.size + 1) 25 _ _ rfl Hblk9.out Try.underlying25 pkinfo _ rfl rfl ?_
    unfold AddPost
    rw [Hp1.out]
    refine ⟨.slice none 0 0, rfl, OwnBs.nil _ _ _, F1, ⟨_, vr', gM1, f', ?_, Hk6.out.same (frame_one Hg9.out) HF1r.out⟩, ?_, fun k hk => ?_⟩
    · rw [Hxk.out]
      unfold pLose
      rw [List.filter_map]
      rfl
    · refine ((Hfr.out.trans (Below.frameF Hb2.out F) (fun _ _ h => h)).trans Hfr6.out (fun i hi q => ?_)).trans (frame_one Hg9.out) (fun i hi q => by omega)
      rcases HF1.out i q with q | q
      · exact q
      · have := LOC1.out.kb; omega
    · rcases HF1.out k hk with q | q
      · exact .inl q
      · exact .inr (by have := LOC1.out.kb; omega)
  have Hp1 := hid (show pAdd (L.map WIt.w) (⟨src, dst, proto, id, off, more, whole, ttl, body⟩ : Pk) = if (pWhole (pMore x.w (⟨src, dst, proto, id, off, more, whole, ttl, body⟩ : Pk)).k (pMore x.w (⟨src, dst, proto, id, off, more, whole, ttl, body⟩ : Pk)).parts (pMore x.w (⟨src, dst, proto, id, off, more, whole, ttl, body⟩ : Pk)).fin).2 then (pLose (pSet (L1.map WIt.w) (pMore x.w (⟨src, dst, proto, id, off, more, whole, ttl, body⟩ : Pk))) (Pk.key (⟨src, dst, proto, id, off, more, whole, ttl, body⟩ : Pk)), (pWhole (pMore x.w (⟨src, dst, proto, id, off, more, whole, ttl, body⟩ : Pk)).k (pMore x.w (⟨src, dst, proto, id, off, more, whole, ttl, body⟩ : Pk)).parts (pMore x.w (⟨src, dst, proto, id, off, more, whole, ttl, body⟩ : Pk)).fin).1, 0) else (pSet (L1.map WIt.w) (pMore x.w (⟨src, dst, proto, id, off, more, whole, ttl, body⟩ : Pk)), pkZero, 19) by rw [Hp.out, if_neg hb1, if_neg hb2])
  have Hok2 := hid (pMore_ok Hok.out Hwr.out (by rw [Hbs.out]; exact hb1) (by rw [Hbs.out]; exact hb2))
  have hbb1 : (bs == 1) = false := by simpa using hb1
  have hbb2 : (bs == 2) = false := by simpa using hb2
  clear Hp hb1 hb2
  go_upto_region 21 with (first
      | ((with_reducible show wpList _ _ _ (Oper.mk (some 78) _ _ _ _ _ :: _) _ _); refine wpList_loadBlk rfl _ _ rfl _ rfl _ _ _ LOC1.out.pc Try.underlying25 pkinfo ?_)
      | (go_at_call 38; refine HBS.out.mono ?_; rintro e w2 ⟨rfl, hb2⟩; have Hb2 := hid hb2; clear hb2)
      | fail)
  have hxI := (K.out.it x Hx.out).keep Hb2.out
  have HxI := hid hxI
  have hpc := LOC1.out.pc.keep Hb2.out
  obtain ⟨n, hn⟩ : ∃ n, x.qs.length = n := ⟨_, rfl⟩
  have Hn := hid hn
  have hnm : n ≤ m := by rw [← hn]; exact Hfew.out x Hx.out
  have hrow := hxI.row
  rw [hn] at hrow
  have Hrow := hid hrow
  have hLB := below_alloc w2 (.cells #[.int .u32 (src : Int), .int .u32 (dst : Int), .int .i64 proto, .int .i64 id, .int .i64 off, .bool more, .bool whole, .int .i64 ttl, .slice A1 body.length cap1] 25)
  have HLB := hid hLB
  have c4 : w2.cell? ⟨x.g, 4, none⟩ = some x.pv := hxI.blk.cell 4
  have p0 : w2.cell? ⟨w.heap.size, 0, none⟩ = some (.int .u32 (src : Int)) := hpc.cell 0
  have p1 : w2.cell? ⟨w.heap.size, 1, none⟩ = some (.int .u32 (dst : Int)) := hpc.cell 1
  have p2 : w2.cell? ⟨w.heap.size, 2, none⟩ = some (.int .i64 proto) := hpc.cell 2
  have p3 : w2.cell? ⟨w.heap.size, 3, none⟩ = some (.int .i64 id) := hpc.cell 3
  have p4 : w2.cell? ⟨w.heap.size, 4, none⟩ = some (.int .i64 off) := hpc.cell 4
  have p5 : w2.cell? ⟨w.heap.size, 5, none⟩ = some (.bool more) := hpc.cell 5
  have p6 : w2.cell? ⟨w.heap.size, 6, none⟩ = some (.bool whole) := hpc.cell 6
  have p7 : w2.cell? ⟨w.heap.size, 7, none⟩ = some (.int .i64 ttl) := hpc.cell 7
  have p8 : w2.cell? ⟨w.heap.size, 8, none⟩ = some (.slice A1 body.length cap1) := hpc.cell 8
  have c4l := cell_below hLB c4
  have hbase2 : base ≤ w2.heap.size := by have := K.out.flt _ K.out.fg; have := Hb2.out.size; omega
  have Hbase2 := hid hbase2
  clear hxI hpc hn hrow hLB hbase2
  go_cut [] from 89 to 98 (fun wx => ∃ pv2, Blk wx x.g 91 (wCells x.w.k pv2 x.w.fin x.w.age) ∧ RowAtS wx base 25 9 pv2 (n + 1) (pkRow x.qs ++ [.int .u32 (src : Int), .int .u32 (dst : Int), .int .i64 proto, .int .i64 id, .int .i64 off, .bool more, .bool whole, .int .i64 ttl, .slice A1 body.length cap1]) ∧ Frame (fun k => k = x.g ∨ x.pv.ownBlock = some k) w2 wx ∧ ∀ k, pv2.ownBlock = some k → x.pv.ownBlock = some k ∨ w2.heap.size ≤ k)
  case first =>
    go_region_law (first
      | (refine step_app_atS _ (by rfl) _ _ 27 (by rfl) base 25 ppkzero 9 72 ppkok x.pv n (pkRow x.qs) (by rfl) (by first | exact Hrow.out.keep HLB.out | exact Hrow.out.keep HLB.out.drew | exact Hrow.out.keep ((below_drew w2).alloc (Nat.le_refl _) _)) (.slice (some ⟨w2.heap.size, 0, none⟩) 1 1) 1 [.int .u32 (src : Int), .int .u32 (dst : Int), .int .i64 proto, .int .i64 id, .int .i64 off, .bool more, .bool whole, .int .i64 ttl, .slice A1 body.length cap1] (by rfl) (by first | exact rowS_lit 9 #[.int .u32 (src : Int), .int .u32 (dst : Int), .int .i64 proto, .int .i64 id, .int .i64 off, .bool more, .bool whole, .int .i64 ttl, .slice A1 body.length cap1] 1 _ rfl rfl (by simp [maxLen]) | exact (rowS_lit 9 #[.int .u32 (src : Int), .int .u32 (dst : Int), .int .i64 proto, .int .i64 id, .int .i64 off, .bool more, .bool whole, .int .i64 ttl, .slice A1 body.length cap1] 1 _ rfl rfl (by simp [maxLen])).drew) (by simp [Value.oneCell']) (by decide) (by omega) (by simp only [maxLen]; omega) (by have := Hbase2.out; simp; omega) ?_; intro v6 w6 hr6 hg6 hv6; have hwy : Below w2.heap.size w2 _ := (by first | exact HLB.out.drew | exact HLB.out | exact (below_drew w2).alloc (Nat.le_refl _) _); obtain ⟨A6, cap6, rfl⟩ : ∃ A c, v6 = .slice A (n + 1) c := (by obtain ⟨_, A, c, h, _⟩ := hr6.rowN; exact ⟨A, c, h⟩); have hb6 := (HxI.out.blk.keep hwy).grown hg6 (fun e => (HxI.out.row.keep hwy).ne (HxI.out.blk.keep hwy) (by decide) e.symm); have Hr6 := hid hr6; have Hf6 := hid ((Below.frameF hwy (fun k => k = x.g ∨ x.pv.ownBlock = some k)).trans (frame_grown hg6 (F := fun k => k = x.g ∨ x.pv.ownBlock = some k) (fun k hk => .inr hk)) (fun _ _ h => h)); have Hv6 := hid (show ∀ k, (Value.slice A6 (n + 1) cap6).ownBlock = some k → x.pv.ownBlock = some k ∨ w2.heap.size ≤ k from fun k hk => (by rcases hv6 with q | q; exact .inl (by rw [← q]; exact hk); rw [q] at hk; injection hk with hk; have := hwy.size; exact .inr (by omega))); have e4 : w6.cell? ⟨x.g, 4, none⟩ = some x.pv := hb6.cell 4; have z4 := hb6.frozen 4; have Hb6 := hid hb6; clear hwy hr6 hg6 hv6 hb6)
      | fail)
    all_goals
      go_wp2_with fail
      go_meet
      case rel =>
        have hgs := grown_set w6 x.g 4 (.slice A6 (n + 1) cap6)
        refine ⟨.slice A6 (n + 1) cap6, Hb6.out.set_ 4 _, Hr6.out.same (fun k hk => hgs.block k (Hr6.out.lt hk).2 (fun e => ?_)), Hf6.out.trans (frame_grown hgs (F := fun k => k = x.g ∨ x.pv.ownBlock = some k) (fun k hk => .inl (by injection hk with hk; exact hk.symm))) (fun _ _ h => h), Hv6.out⟩
        injection e with e
        subst e
        exact Hr6.out.ne Hb6.out (by decide) hk
  case rest =>
  obtain ⟨pv2, hblk, hrow2, hfr2, hv2⟩ := hcut
  have HG := hid (show ∀ k, (k = x.g ∨ x.pv.ownBlock = some k) → F1 k from fun k hk => by
    rcases hk with rfl | hk
    · exact (K.out.it x Hx.out).fg
    · exact (K.out.it x Hx.out).fp k hk)
  have HG2 := hid (show ∀ k, (k = x.g ∨ x.pv.ownBlock = some k) → k < w.heap.size ∨ kb + 1 ≤ k from fun k hk => by
    rcases HF1.out k (HG.out k hk) with q | q
    · exact .inl (HF.out k q)
    · exact .inr q)
  have LOC2 := hid ((LOC1.out.keep Hb2.out).frame hfr2 HG2.out)
  have Hblk := hid hblk
  have Hrow2 := hid hrow2
  have Hfr2 := hid hfr2
  have Hv2 := hid hv2
  have p5 : wc.cell? ⟨w.heap.size, 5, none⟩ = some (.bool more) := LOC2.out.pc.cell 5
  have p4 : wc.cell? ⟨w.heap.size, 4, none⟩ = some (.int .i64 off) := LOC2.out.pc.cell 4
  have p8 : wc.cell? ⟨w.heap.size, 8, none⟩ = some (.slice A1 body.length cap1) := LOC2.out.pc.cell 8
  have b5 : wc.cell? ⟨x.g, 5, none⟩ = some (.int .i64 x.w.fin) := hblk.cell 5
  have z5 := hblk.frozen 5
  have hpo := pWrong_no Hwr.out
  simp only [Pk.to] at hpo
  have hwr5 : IntKind.i64.wrap (off + (body.length : Int)) = off + (body.length : Int) := IntWalk.i64_in _ (by omega)
  clear hblk hrow2 hfr2 hv2 c4l HBS Hrow HLB
  go_upto_if 101 with fail
  go_cut [] from 101 to 110 (fun wx => Blk wx x.g 91 (wCells x.w.k pv2 (if more then x.w.fin else off + (body.length : Int)) x.w.age) ∧ RowAtS wx base 25 9 pv2 (n + 1) (pkRow x.qs ++ [.int .u32 (src : Int), .int .u32 (dst : Int), .int .i64 proto, .int .i64 id, .int .i64 off, .bool more, .bool whole, .int .i64 ttl, .slice A1 body.length cap1]) ∧ Frame (fun k => k = x.g ∨ x.pv.ownBlock = some k) w2 wx)
  case first =>
    cases more with
    | true =>
      go_wp2_with fail
      go_meet
      case rel => exact ⟨Hblk.out, Hrow2.out, Hfr2.out⟩
    | false =>
      go_wp2_with fail
      go_meet
      case rel =>
        have hgs := grown_set wc x.g 5 (.int .i64 (off + (body.length : Int)))
        refine ⟨Hblk.out.set_ 5 _, Hrow2.out.same (fun k hk => hgs.block k (Hrow2.out.lt hk).2 (fun e => ?_)), Hfr2.out.trans (frame_grown hgs (F := fun k => k = x.g ∨ x.pv.ownBlock = some k) (fun k hk => .inl (by injection hk with hk; exact hk.symm))) (fun _ _ h => h)⟩
        injection e with e
        subst e
        exact Hrow2.out.ne Hblk.out (by decide) hk
  case rest =>
  obtain ⟨hblk, hrow3, hfr3⟩ := hcut
  have K2 := K.out.keep Hb2.out
  have LOC3 := (LOC1.out.keep Hb2.out).frame hfr3 HG2.out
  have hok3 : (pMore x.w (⟨src, dst, proto, id, off, more, whole, ttl, body⟩ : Pk)).Ok := Hok2.out
  have hnotM : ¬ (gM1 = x.g ∨ x.pv.ownBlock = some gM1) := by
    rintro (q | q)
    · exact K2.map.ne HxI.out.blk q
    · obtain ⟨cur, hcur⟩ := HxI.out.row.blk q
      exact K2.map.ne hcur rfl
  have hw2 : w.heap.size + 2 ≤ w2.heap.size := by have := (LOC1.out.keep Hb2.out).kc.lt; have := LOC1.out.kb; omega
  have hbw : base ≤ w.heap.size := by have := H.out.flt _ H.out.fg; omega
  have itx : ItAt wc base ⟨pMore x.w (⟨src, dst, proto, id, off, more, whole, ttl, body⟩ : Pk), x.g, pv2, x.qs ++ [((⟨src, dst, proto, id, off, more, whole, ttl, body⟩ : Pk), .slice A1 body.length cap1)]⟩ (fun k => F1 k ∨ (Value.slice A1 body.length cap1).ownBlock = some k ∨ pv2.ownBlock = some k) := by
    refine ⟨hblk, ?_, ?_, ?_, .inl (K.out.it x Hx.out).fg, fun k hk => .inr (.inr hk), ?_⟩
    · have e1 : (x.qs ++ [((⟨src, dst, proto, id, off, more, whole, ttl, body⟩ : Pk), Value.slice A1 body.length cap1)]).length = n + 1 := by rw [List.length_append, Hn.out]; rfl
      rw [e1, pkRow_snoc]
      exact hrow3
    · intro q hq
      rcases List.mem_append.1 hq with hq | hq
      · refine hfr3.own (HxI.out.bod q hq) fun k hk => ?_
        obtain ⟨cur, hcur⟩ := own_blkS (HxI.out.bod q hq) hk
        exact HxI.out.not hcur (by decide)
      · simp at hq
        subst hq
        exact LOC3.b.mono (by omega)
    · rw [List.map_append, HxI.out.fst]
      rfl
    · intro q hq k hk
      rcases List.mem_append.1 hq with hq | hq
      · exact .inl ((K.out.it x Hx.out).fb q hq k hk)
      · simp at hq
        subst hq
        exact .inr (.inl hk)
  have K3 : PtAt wc base g (swapAt L1 x ⟨pMore x.w (⟨src, dst, proto, id, off, more, whole, ttl, body⟩ : Pk), x.g, pv2, x.qs ++ [((⟨src, dst, proto, id, off, more, whole, ttl, body⟩ : Pk), .slice A1 body.length cap1)]⟩) (m + 1) vr1 gM1 f1 (fun k => F1 k ∨ (Value.slice A1 body.length cap1).ownBlock = some k ∨ pv2.ownBlock = some k) := by
    refine K2.turn Hx.out rfl rfl (fun k hk => .inl hk) (hfr3.blk K2.tab (HxI.out.not K2.tab (by decide))) (K2.row.same fun k hk => hfr3.block k (K2.row.lt hk).2 ?_) (K2.map.block (hfr3.block gM1 K2.map.lt hnotM)) (fun y hy hne => ((K2.it y hy).aside HxI.out hne (K2.part Hx.out hy hne) hfr3).weaken (fun k hk => .inl hk)) itx (fun y hy hne k hk => ?_) hok3 ?_ (Nat.le_refl _) (fun k hk => ?_)
    · obtain ⟨cur, hcur⟩ := K2.row.blk hk
      exact HxI.out.not hcur (by decide)
    · rcases Hv2.out k hk with q | q
      · exact K2.part Hx.out hy hne k q
      · intro r
        have := ((K2.it y hy).row.lt r).2
        omega
    · rw [List.length_append, Hn.out]
      simp
      omega
    · have hs3 := hfr3.size
      rcases hk with hk | hk | hk
      · have := K2.flt k hk; omega
      · have := own_at LOC3.b hk; omega
      · exact hrow3.lt hk
  have HF2r := hid (show ∀ k, (fun k => F1 k ∨ (Value.slice A1 body.length cap1).ownBlock = some k ∨ pv2.ownBlock = some k) k → k ≠ w.heap.size + 1 from fun k hk e => by
    have hk : F1 k ∨ (Value.slice A1 body.length cap1).ownBlock = some k ∨ pv2.ownBlock = some k := hk
    rcases hk with hk | hk | hk
    · exact HF1r.out k hk e
    · have := own_at LOC3.b hk; omega
    · rcases Hv2.out k hk with q | q
      · exact HF1r.out k ((K.out.it x Hx.out).fp k q) e
      · omega)
  have HF2s := hid (show ∀ k, (fun k => F1 k ∨ (Value.slice A1 body.length cap1).ownBlock = some k ∨ pv2.ownBlock = some k) k → F k ∨ w.heap.size ≤ k from fun k hk => by
    have hk : F1 k ∨ (Value.slice A1 body.length cap1).ownBlock = some k ∨ pv2.ownBlock = some k := hk
    rcases hk with hk | hk | hk
    · rcases HF1.out k hk with q | q
      · exact .inl q
      · exact .inr (by have := LOC1.out.kb; omega)
    · have := own_at LOC3.b hk; exact .inr (by omega)
    · rcases Hv2.out k hk with q | q
      · rcases HF1.out k ((K.out.it x Hx.out).fp k q) with q | q
        · exact .inl q
        · exact .inr (by have := LOC1.out.kb; omega)
      · exact .inr (by omega))
  have HFR3 := hid ((Hfr.out.trans (Below.frameF Hb2.out F) (fun _ _ h => h)).trans hfr3 (fun i hi q => by
    rcases HF1.out i (HG.out i q) with q | q
    · exact q
    · have := LOC1.out.kb; omega))
  have HWh := whole_at base ⟨pMore x.w (⟨src, dst, proto, id, off, more, whole, ttl, body⟩ : Pk), x.g, pv2, x.qs ++ [((⟨src, dst, proto, id, off, more, whole, ttl, body⟩ : Pk), .slice A1 body.length cap1)]⟩ (fun k => F1 k ∨ (Value.slice A1 body.length cap1).ownBlock = some k ∨ pv2.ownBlock = some k) wc itx hok3 (by rw [List.length_append, Hn.out]; simp; omega)
  have hsw := K2.swap_w (x' := ⟨pMore x.w (⟨src, dst, proto, id, off, more, whole, ttl, body⟩ : Pk), x.g, pv2, x.qs ++ [((⟨src, dst, proto, id, off, more, whole, ttl, body⟩ : Pk), .slice A1 body.length cap1)]⟩) Hx.out rfl
  have hxm : (⟨pMore x.w (⟨src, dst, proto, id, off, more, whole, ttl, body⟩ : Pk), x.g, pv2, x.qs ++ [((⟨src, dst, proto, id, off, more, whole, ttl, body⟩ : Pk), .slice A1 body.length cap1)]⟩ : WIt) ∈ swapAt L1 x ⟨pMore x.w (⟨src, dst, proto, id, off, more, whole, ttl, body⟩ : Pk), x.g, pv2, x.qs ++ [((⟨src, dst, proto, id, off, more, whole, ttl, body⟩ : Pk), .slice A1 body.length cap1)]⟩ := List.mem_map.2 ⟨x, Hx.out, if_pos rfl⟩
  have HLo := fun wx (y : Below wc.heap.size wc wx) => lose_at base g _ (m + 1) vr1 gM1 f1 _ _ hxm wx (K3.keep y)
  dsimp only at HWh hsw
  rw [← hsw] at Hp1
  generalize hx9 : (swapAt L1 x ⟨pMore x.w (⟨src, dst, proto, id, off, more, whole, ttl, body⟩ : Pk), x.g, pv2, x.qs ++ [((⟨src, dst, proto, id, off, more, whole, ttl, body⟩ : Pk), .slice A1 body.length cap1)]⟩) = L9 at *
  generalize (fun k => F1 k ∨ (Value.slice A1 body.length cap1).ownBlock = some k ∨ pv2.ownBlock = some k) = F2 at *
  dsimp only at HLo
  rw [show (pMore x.w (⟨src, dst, proto, id, off, more, whole, ttl, body⟩ : Pk)).k = Pk.key (⟨src, dst, proto, id, off, more, whole, ttl, body⟩ : Pk) from Hxk.out] at HLo
  rw [show ptrV (some x.g) = .pointer (some ⟨x.g, 0, none⟩) from rfl] at HLo HWh
  obtain ⟨⟨qp, qb⟩, hq⟩ : ∃ q, pWhole (pMore x.w (⟨src, dst, proto, id, off, more, whole, ttl, body⟩ : Pk)).k (pMore x.w (⟨src, dst, proto, id, off, more, whole, ttl, body⟩ : Pk)).parts (pMore x.w (⟨src, dst, proto, id, off, more, whole, ttl, body⟩ : Pk)).fin = q := ⟨_, rfl⟩
  have hp1 := Hp1.out
  rw [hq] at HWh hp1
  obtain ⟨s9, d9, pr9, id9, of9, mo9, wh9, tt9, bd9⟩ := qp
  have HLo := hid HLo
  have HWh := hid HWh
  have Hp9 := hid hp1
  have K9 := hid K3
  have LOC9 := hid LOC3
  clear hq hp1 K3 LOC3 hsw hxm itx hx9 hblk hrow3 hfr3 K2 hok3 hnotM hw2 hbw b5 z5 p4 p5 p8 c4 p0 p1 p2 p3 p6 p7 Hp1 hwr5 hpo hbb1 hbb2
  cases qb with
  | false =>
    have Hpn := hid (show pAdd (L.map WIt.w) (⟨src, dst, proto, id, off, more, whole, ttl, body⟩ : Pk) = (L9.map WIt.w, pkZero, 19) by rw [Hp9.out]; rfl)
    go_wp2_with (first
      | (go_at_call 39; refine HWh.out.mono ?_; rintro e w3 ⟨v9, rfl, hown, hb3⟩; obtain ⟨A9, c9, rfl⟩ := slice_len hown.bs rfl; dsimp only [pkCells]; have Hb3 := hid hb3; clear hown hb3)
      | ((with_reducible show wpList _ _ _ (Oper.mk none _ _ _ _ _ :: _) _ _); refine wpList_storeBlk rfl _ _ _ rfl _ _ rfl rfl _ _ ((LOC9.out.rc.keep Hb3.out).alloc _) pkinfo rfl rfl ?_; intro w9 hblk9 hg9 hsz9; have Hblk9 := hid hblk9; have Hg9 := hid hg9; clear hblk9 hg9 hsz9)
      | fail)
    refine ret_cell2 rfl (w.heap.size + 1) 25 _ _ rfl Hblk9.out Try.underlying25 pkinfo _ rfl rfl ?_
    unfold AddPost
    rw [Hpn.out]
    have hb4 := below_alloc' Hb3.out (.cells #[.int .u32 (s9 : Int), .int .u32 (d9 : Int), .int .i64 pr9, .int .i64 id9, .int .i64 of9, .bool mo9, .bool wh9, .int .i64 tt9, .slice A9 bd9.length c9] 25)
    refine ⟨.slice none 0 0, rfl, OwnBs.nil _ _ _, F2, ⟨L9, vr1, gM1, f1, rfl, (K9.out.keep hb4).same (frame_one Hg9.out) HF2r.out⟩, ?_, HF2s.out⟩
    exact (HFR3.out.trans (Below.frameF hb4 F) (fun _ _ h => h)).trans (frame_one Hg9.out) (fun i hi q => by omega)
  | true =>
    have Hpn := hid (show pAdd (L.map WIt.w) (⟨src, dst, proto, id, off, more, whole, ttl, body⟩ : Pk) = (pLose (L9.map WIt.w) (Pk.key (⟨src, dst, proto, id, off, more, whole, ttl, body⟩ : Pk)), ⟨s9, d9, pr9, id9, of9, mo9, wh9, tt9, bd9⟩, 0) by rw [Hp9.out]; rfl)
    have HF9 := hid (fun k (hk : F2 k) => (K9.out.flt k hk).2)
    go_wp2_with (first
      | (go_at_call 39; refine HWh.out.mono ?_; rintro e w3 ⟨v9, rfl, hown, hb3⟩; obtain ⟨A9, c9, rfl⟩ := slice_len hown.bs rfl; dsimp only [pkCells]; have Hb3 := hid hb3; have Hown3 := hid hown; clear hown hb3)
      | (go_at_call 37; refine (HLo.out _ (below_alloc' Hb3.out _)).mono ?_; rintro e w6 ⟨⟨u, rfl⟩, vr', f', hk6, hfr6⟩; have hq6 := hfr6.blk (Blk.new w3 25 #[.int .u32 (s9 : Int), .int .u32 (d9 : Int), .int .i64 pr9, .int .i64 id9, .int .i64 of9, .bool mo9, .bool wh9, .int .i64 tt9, .slice A9 bd9.length c9]) (fun q => by have h1 := HF9.out _ q; have h2 := Hb3.out.size; omega); have hr6 := hfr6.blk ((LOC9.out.rc.keep Hb3.out).alloc (.cells #[.int .u32 (s9 : Int), .int .u32 (d9 : Int), .int .i64 pr9, .int .i64 id9, .int .i64 of9, .bool mo9, .bool wh9, .int .i64 tt9, .slice A9 bd9.length c9] 25)) (fun q => HF2r.out _ q rfl); have ho6 := hfr6.own (Hown3.out.alloc (.cells #[.int .u32 (s9 : Int), .int .u32 (d9 : Int), .int .i64 pr9, .int .i64 id9, .int .i64 of9, .bool mo9, .bool wh9, .int .i64 tt9, .slice A9 bd9.length c9] 25)) (fun k hk q => by have h1 := HF9.out _ q; have h2 := (own_at Hown3.out hk).1; omega); have Hq6 := hid hq6; have Hr6 := hid hr6; have Ho6 := hid (show OwnBs w6 wc.heap.size 5 (.slice A9 bd9.length c9) bd9 from ho6); have Hk6 := hid hk6; have Hfr6 := hid hfr6; clear hk6 hfr6 hq6 hr6 ho6)
      | ((with_reducible show wpList _ _ _ (Oper.mk (some 122) _ _ _ _ _ :: _) _ _); refine wpList_loadBlk rfl _ _ rfl _ rfl _ _ _ Hq6.out Try.underlying25 pkinfo ?_)
      | ((with_reducible show wpList _ _ _ (Oper.mk none _ _ _ _ _ :: _) _ _); refine wpList_storeBlk rfl _ _ _ rfl _ _ rfl rfl _ _ Hr6.out pkinfo rfl rfl ?_; intro w9 hblk9 hg9 hsz9; have Hblk9 := hid hblk9; have Hg9 := hid hg9; clear hblk9 hg9 hsz9)
      | fail)
    refine ret_cell2 rfl (w.heap.size + 1) 25 _ _ rfl Hblk9.out Try.underlying25 pkinfo _ rfl rfl ?_
    unfold AddPost
    rw [Hpn.out]
    have hb4 := below_alloc' Hb3.out (.cells #[.int .u32 (s9 : Int), .int .u32 (d9 : Int), .int .i64 pr9, .int .i64 id9, .int .i64 of9, .bool mo9, .bool wh9, .int .i64 tt9, .slice A9 bd9.length c9] 25)
    have hsw : w.heap.size ≤ wc.heap.size := by have := LOC9.out.rc.lt; omega
    refine ⟨.slice A9 bd9.length c9, rfl, (ownBs_store Ho6.out Hr6.out (by decide) Hg9.out).mono hsw, F2, ⟨_, vr', gM1, f', ?_, Hk6.out.same (frame_one Hg9.out) HF2r.out⟩, ?_, HF2s.out⟩
    · unfold pLose
      rw [List.filter_map]
      rfl
    · refine ((HFR3.out.trans (Below.frameF hb4 F) (fun _ _ h => h)).trans Hfr6.out (fun i hi q => ?_)).trans (frame_one Hg9.out) (fun i hi q => by omega)
      rcases HF2s.out i q with q | q
      · exact q
      · omega
end Go.Proofs.Ytbjiicnagfeciaa
