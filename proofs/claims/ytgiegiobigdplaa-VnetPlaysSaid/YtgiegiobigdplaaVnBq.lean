/- Both sides, and a frame of the law's own beside them. -/
import Derived.Test.YtgiegiobigdplaaVnBo
namespace Go.Proofs.Ytgiegiobigdplaa
section
open Go Go.RowKit
set_option linter.unusedVariables false

theorem tie_range (b n : Nat) (M : List UInt8) : Tie (List.range n) (vOffers b n (M, vq0 n) n).2.busy := by
  refine ⟨List.nodup_range, fun k => ?_⟩
  rw [List.mem_range, vOffers_busy b n M n (Nat.le_refl n) k]
  by_cases h : k < n
  · rw [if_pos h]
    exact ⟨fun _ => rfl, fun _ => h⟩
  · rw [if_neg h, if_neg h]
    exact ⟨fun e => absurd e h, fun e => by cases e⟩
theorem tie_none (n : Nat) : Tie [] (vq0 n).busy := by
  refine ⟨List.nodup_nil, fun k => ⟨fun e => absurd e List.not_mem_nil, fun e => ?_⟩⟩
  unfold vq0 at e
  simp only [List.getElem?_replicate] at e
  split at e <;> simp at e
theorem plv_start {w4 w5 w6 w7 : World} {B gm gx L b n gC gP gD gQ gdi gdo gi go rdi rdo : Nat} {I : CardIds} {vi vo : Value} {col : Nat → Nat} {M : List UInt8}
    (hfit : vFits L (b : Int) (n : Int) = true) (hL : L ≤ 60000) (hlo : B ≤ gm)
    (hc : CardAt w4 B gm L b n gC (vOffers b n (vNewM M b n, vq0 n) n).1 (vOffers b n (vNewM M b n, vq0 n) n).2 (vq0 n) n I)
    (hr : RCard w5 B gx L b n gD (vOffers b n (vNewM M b n, vq0 n) n).1 (vOffers b n (vNewM M b n, vq0 n) n).2 (vq0 n) n gi go vi vo (List.range n) [] col)
    (f45 : Frame (fun k => k = gx) w4 w5) (hcol : ∀ k, col k ≠ 0 → k = gx ∨ w4.heap.size ≤ k) (hgx : ∀ k, I.foot gC k ∨ k = gm → k ≠ gx)
    (hp : PortAt w6 B gm L b n gP (vOffers b n (vNewM M b n, vq0 n) n).1 ⟨0, 0⟩ ⟨0, 0⟩ gdi gdo) (b56 : Below w5.heap.size w5 w6) (hpf : ∀ k, portFoot gP gdi gdo k → w5.heap.size ≤ k)
    (hq : RPortAt w7 B gx L b n gQ (vOffers b n (vNewM M b n, vq0 n) n).1 ⟨0, 0⟩ ⟨0, 0⟩ rdi rdo) (b67 : Below w6.heap.size w6 w7) (hqf : ∀ k, portFoot gQ rdi rdo k → w6.heap.size ≤ k) :
    ∃ F, PlV w7 B gm gx L b n gC gP gD gQ n F (vStart M b n) (vStart M b n) := by
  have hbz : ∀ j, j < n → (vStart M b n).ci.busy[j]? = some true := fun j hj => by
    show (vOffers b n (vNewM M b n, vq0 n) n).2.busy[j]? = _
    rw [vOffers_busy b n _ n (Nat.le_refl n) j, if_pos hj]
  have hc5 := hc.frame f45 (fun k hk e => hgx k hk e)
  have hv6 : VPlay w6 B gm L b n gC gP gdi gdo n I (vStart M b n) := vplay_start hc5 hp b56 hpf
  have hv7 := hv6.keep b67
  have h5 := b56.size
  have hf45 := f45.size
  have hcl : ∀ k, I.foot gC k ∨ k = gm → k < w4.heap.size := fun k hk => hk.elim (fun e => (hc.bd k e).2) (fun e => e ▸ Blk.lt hc.mem)
  have a1 : ∀ k, VPlay.foot gm gC gP gdi gdo I k → col k = 0 ∧ ¬ portFoot gQ rdi rdo k := fun k hk => by
    have hk6 := hv6.bd k hk
    refine ⟨Classical.byContradiction fun e => ?_, fun e => by have := hqf k e; omega⟩
    rcases hk with e2 | e2 | e2
    · rcases hcol k e with e3 | e3
      · exact hgx k (.inl e2) e3
      · have := hcl k (.inl e2)
        omega
    · have h1 := hpf k e2
      have h2 := (hr.flt k e).2
      omega
    · rcases hcol k e with e3 | e3
      · exact hgx k (.inr e2) e3
      · have := hcl k (.inr e2)
        omega
  exact ⟨_, hfit, hL, gdi, gdo, n, I, n, gi, go, vi, vo, List.range n, [], col, rdi, rdo, ⟨hv7, (hr.keep b56).keep b67, tie_range b n _, tie_none n, hq, Nat.le_refl _, Nat.le_refl _, hbz, hbz, a1, fun k hk e => by have h1 := (hr.flt k hk).2; have h2 := hqf k e; omega, hlo⟩, rfl⟩
section
variable {w w' : World} {B gm gx L b n gC gP gD gQ d : Nat} {F : Nat → Prop} {s1 s2 : VnSt}
theorem p_poke (h : PlV w B gm gx L b n gC gP gD gQ d F s1 s2) (i : Nat) (x : UInt8) : PlV (w.setCell ⟨gm, i, none⟩ (u8v x)) B gm gx L b n gC gP gD gQ d F { s1 with M := s1.M.set i x } s2 := by
  obtain ⟨hfit, hL, gdi, gdo, m, I, m2, gi, go, vi, vo, hi, ho, col, rdi, rdo, hx, rfl⟩ := h
  have hf : Frame (fun k => k = gm) w (w.setCell ⟨gm, i, none⟩ (u8v x)) := frame_mem (grown_set w gm i (u8v x))
  have hm : MemAt (w.setCell ⟨gm, i, none⟩ (u8v x)) gm (s1.M.set i x) := by
    have := Blk.set_ hx.vp.card.mem i (u8v x)
    rw [← List.map_set] at this
    exact this
  have hl : (s1.M.set i x).length = L := by rw [List.length_set]; exact hx.vp.card.len
  have hv : VPlay (w.setCell ⟨gm, i, none⟩ (u8v x)) B gm L b n gC gP gdi gdo m I { s1 with M := s1.M.set i x } :=
    ⟨hx.vp.card.memG hf (fun k hk e => hx.vp.card.nm (e ▸ hk)) hm hl, hx.vp.port.memG hf (fun k hk e => hx.vp.port.nm (e ▸ hk)) hm hl, hx.vp.far⟩
  exact ⟨hfit, hL, _, _, _, _, _, _, _, _, _, _, _, _, _, _, hx.prog (s := { s1 with M := s1.M.set i x }) (hf.weaken (fun k _ e => .inr (.inr e))) hv (fun k hk => .inl hk) (d' := d) hx.m1d (Nat.le_refl _) hx.b1, rfl⟩
theorem d_poke (h : PlV w B gm gx L b n gC gP gD gQ d F s1 s2) (i : Nat) (x : UInt8) : PlV (w.setCell ⟨gx, i, none⟩ (u8v x)) B gm gx L b n gC gP gD gQ d F s1 { s2 with M := s2.M.set i x } := by
  obtain ⟨hfit, hL, gdi, gdo, m, I, m2, gi, go, vi, vo, hi, ho, col, rdi, rdo, hx, rfl⟩ := h
  have hf : Frame (fun k => k = gx) w (w.setCell ⟨gx, i, none⟩ (u8v x)) := frame_mem (grown_set w gx i (u8v x))
  have hm : MemAt (w.setCell ⟨gx, i, none⟩ (u8v x)) gx (s2.M.set i x) := by
    have := Blk.set_ hx.rc.mem i (u8v x)
    rw [← List.map_set] at this
    exact this
  have hl : (s2.M.set i x).length = L := by rw [List.length_set]; exact hx.rc.len
  have hr := hx.rc.mem_ hf hm hl
  exact ⟨hfit, hL, _, _, _, _, _, _, _, _, _, _, _, _, _, _, hx.card (s := { s2 with M := s2.M.set i x }) (hf.weaken (fun k _ e => by rw [e, hx.rc.cm]; decide)) hr (fun _ _ => rfl) ⟨rfl, rfl⟩ hx.ti hx.to_ (d' := d) hx.m2d (Nat.le_refl _) hx.b2, rfl⟩
end
end
section
open Go Go.RowKit
set_option linter.unusedVariables false

structure PS (W w : World) (B gm gx L b n gC gP gD gQ d : Nat) (F : Nat → Prop) (s1 s2 : VnSt) (vb : Value) (f : List UInt8) : Prop where
  pl : PlV w B gm gx L b n gC gP gD gQ d F s1 s2
  ob : OwnBs w W.heap.size 5 vb f
  nb : ∀ k, vb.ownBlock = some k → ¬ F k
  bl : Below W.heap.size W w
  wb : W.heap.size ≤ B
  fl : f.length ≤ 3000
section
variable {W w w' : World} {B gm gx L b n gC gP gD gQ d d' : Nat} {F F' : Nat → Prop} {s1 s2 s1' s2' : VnSt} {vb : Value} {f : List UInt8}
theorem PS.fb (h : PS W w B gm gx L b n gC gP gD gQ d F s1 s2 vb f) (w' : World) (hf : Frame F w w') : Bs w' vb f := OwnBs.bs (hf.own h.ob h.nb)
theorem PS.below (h : PS W w B gm gx L b n gC gP gD gQ d F s1 s2 vb f) (hf : Frame F w w') : Below W.heap.size W w' := h.bl.trans (hf.below (fun k hk => Nat.le_trans h.wb (h.pl.bd k hk).1) h.bl.size)
theorem PS.arg {v : Value} (h : PS W w B gm gx L b n gC gP gD gQ d F s1 s2 vb f) (hv : Bs W v f) (w' : World) (hf : Frame F w w') : Bs w' v f := hv.below (h.below hf)
theorem PS.go (h : PS W w B gm gx L b n gC gP gD gQ d F s1 s2 vb f) (hp : PlV w' B gm gx L b n gC gP gD gQ d' F' s1' s2') (hf : Frame F w w') (hF : ∀ k, F' k → F k ∨ w.heap.size ≤ k) : PS W w' B gm gx L b n gC gP gD gQ d' F' s1' s2' vb f :=
  ⟨hp, hf.own h.ob h.nb, fun k hk e => (hF k e).elim (h.nb k hk) (fun e2 => by have := (World.ownsRow.lt h.ob k hk).2; omega), h.below hf, h.wb, h.fl⟩
theorem PS.keep (h : PS W w B gm gx L b n gC gP gD gQ d F s1 s2 vb f) (hb : Below w.heap.size w w') : PS W w' B gm gx L b n gC gP gD gQ d F s1 s2 vb f := h.go (h.pl.keep hb) (Below.frameF hb F) (fun k hk => .inl hk)
theorem ps_psend (h : PS W w B gm gx L b n gC gP gD gQ d F s1 s2 vb f) (hd : d < 800000000) :
    Calls Try.prog 14 #[.pointer (some ⟨gC, 0, none⟩), vb] w fun e w' => e = .returned (.int .i64 (vSend b n s1 f).1) ∧ ∃ F', PS W w' B gm gx L b n gC gP gD gQ (d + 1) F' (vSend b n s1 f).2 s2 vb f :=
  (p_send h.pl hd h.fb (by have := h.fl; omega)).mono (fun e w' ⟨he, F', hp, hf, hF⟩ => ⟨he, F', h.go hp hf hF⟩)
theorem ps_dsend {v : Value} (h : PS W w B gm gx L b n gC gP gD gQ d F s1 s2 vb f) (hv : Bs W v f) (hd : d < 800000000) :
    Calls Try.prog 15 #[.pointer (some ⟨gD, 0, none⟩), v] w fun e w' => e = .returned (.int .i64 (vSend b n s2 f).1) ∧ ∃ F', PS W w' B gm gx L b n gC gP gD gQ (d + 1) F' s1 (vSend b n s2 f).2 vb f :=
  (d_send h.pl hd (h.arg hv) (by have := h.fl; omega)).mono (fun e w' ⟨he, F', hp, hf, hF⟩ => ⟨he, F', h.go hp hf hF⟩)
theorem ps_pdeliver (h : PS W w B gm gx L b n gC gP gD gQ d F s1 s2 vb f) :
    Calls Try.prog 19 #[.pointer (some ⟨gP, 0, none⟩), vb] w fun e w' => e = .returned (.int .i64 (vDel b n s1 f).1) ∧ ∃ F', PS W w' B gm gx L b n gC gP gD gQ d F' (vDel b n s1 f).2 s2 vb f :=
  (p_deliver h.pl h.fb (by have := h.fl; omega)).mono (fun e w' ⟨he, F', hp, hf, hF⟩ => ⟨he, F', h.go hp hf hF⟩)
theorem ps_ddeliver {v : Value} (h : PS W w B gm gx L b n gC gP gD gQ d F s1 s2 vb f) (hv : Bs W v f) :
    Calls Try.prog 20 #[.pointer (some ⟨gQ, 0, none⟩), v] w fun e w' => e = .returned (.int .i64 (vDel b n s2 f).1) ∧ ∃ F', PS W w' B gm gx L b n gC gP gD gQ d F' s1 (vDel b n s2 f).2 vb f :=
  (d_deliver h.pl (h.arg hv) (by have := h.fl; omega)).mono (fun e w' ⟨he, F', hp, hf, hF⟩ => ⟨he, F', h.go hp hf hF⟩)
theorem ps_preceive (h : PS W w B gm gx L b n gC gP gD gQ d F s1 s2 vb f) (hd : d < 800000000) :
    Calls Try.prog 17 #[.pointer (some ⟨gC, 0, none⟩)] w fun e w' => ∃ v F', e = .returned v ∧ PS W w' B gm gx L b n gC gP gD gQ (d + 65536) F' (vRcv b n s1).2 s2 vb f ∧ RowsN w' w.heap.size F' v (vRcv b n s1).1 :=
  (p_receive h.pl hd).mono (fun e w' ⟨v, F', he, hp, hf, hF, hr⟩ => ⟨v, F', he, h.go hp hf hF, hr⟩)
theorem ps_dreceive {v1 : Value} {b1 : Nat} {L1 : List (List UInt8)} (h : PS W w B gm gx L b n gC gP gD gQ d F s1 s2 vb f) (hd : d < 800000000) (hr1 : RowsN w b1 F v1 L1) :
    Calls Try.prog 18 #[.pointer (some ⟨gD, 0, none⟩)] w fun e w' => ∃ v F', e = .returned v ∧ PS W w' B gm gx L b n gC gP gD gQ (d + 65536) F' s1 (vRcv b n s2).2 vb f ∧ Rows8 w' v1 L1 ∧ Rows8 w' v (vRcv b n s2).1 :=
  (d_receive h.pl hd).mono (fun e w' ⟨v, F', he, hp, hf, hF, hr⟩ => ⟨v, F', he, h.go hp hf hF, (hr1.on hf).rows8, hr.rows8⟩)
theorem ps_psent (h : PS W w B gm gx L b n gC gP gD gQ d F s1 s2 vb f) :
    Calls Try.prog 21 #[.pointer (some ⟨gP, 0, none⟩)] w fun e w' => ∃ v, e = .returned v ∧ PS W w' B gm gx L b n gC gP gD gQ d F (vSnt b n s1).2 s2 vb f ∧ RowsN w' w.heap.size F v (vSnt b n s1).1 :=
  (p_sent h.pl).mono (fun e w' ⟨v, he, hp, hf, hr⟩ => ⟨v, he, h.go hp hf (fun k hk => .inl hk), hr⟩)
theorem ps_dsent {v1 : Value} {b1 : Nat} {L1 : List (List UInt8)} (h : PS W w B gm gx L b n gC gP gD gQ d F s1 s2 vb f) (hr1 : RowsN w b1 F v1 L1) :
    Calls Try.prog 22 #[.pointer (some ⟨gQ, 0, none⟩)] w fun e w' => ∃ v, e = .returned v ∧ PS W w' B gm gx L b n gC gP gD gQ d F s1 (vSnt b n s2).2 vb f ∧ Rows8 w' v1 L1 ∧ Rows8 w' v (vSnt b n s2).1 :=
  (d_sent h.pl).mono (fun e w' ⟨v, he, hp, hf, hr⟩ => ⟨v, he, h.go hp hf (fun k hk => .inl hk), (hr1.on hf).rows8, hr.rows8⟩)
theorem PlV.strs (h : PlV w B gm gx L b n gC gP gD gQ d F s1 s2) : Bs w (.slice (some ⟨gm, 0, none⟩) L L) s1.M ∧ Bs w (.slice (some ⟨gx, 0, none⟩) L L) s2.M := by
  obtain ⟨h1, h2, h3, h4, _, _, h7⟩ := h.mems
  have e1 : (s1.M.drop 0).take L = s1.M := by rw [List.drop_zero, List.take_of_length_le (by omega)]
  have e2 : (s2.M.drop 0).take L = s2.M := by rw [List.drop_zero, List.take_of_length_le (by omega)]
  have a1 := h1.bs (off := 0) (n := L) (cap := L) (by omega) (Nat.le_refl _) (by simp only [maxLen]; omega)
  have a2 := h2.bs (off := 0) (n := L) (cap := L) (by omega) (Nat.le_refl _) (by simp only [maxLen]; omega)
  rw [e1] at a1
  rw [e2] at a2
  exact ⟨a1, a2⟩
/-- how many rows are told -/
theorem vReceive_len (b n : Nat) : ∀ (k : Nat) (M : List UInt8) (q : VQ) (out : List (List UInt8)), (vReceive b n k M q out).1.length ≤ out.length + k
  | 0, M, q, out => Nat.le_refl _
  | k + 1, M, q, out => by
    rw [vReceive]
    split
    · exact Nat.le_add_right _ _
    · refine Nat.le_trans (vReceive_len b n k _ _ _) ?_
      split
      · rw [List.length_append, List.length_singleton]; omega
      · omega
theorem vSent_len (b n : Nat) : ∀ (k : Nat) (M : List UInt8) (d : VD) (out : List (List UInt8)), (vSent b n k M d out).1.length ≤ out.length + k
  | 0, M, d, out => Nat.le_refl _
  | k + 1, M, d, out => by
    rw [vSent]
    split
    · exact Nat.le_add_right _ _
    · have := vSent_len b n k M (by assumption) out
      omega
    · refine Nat.le_trans (vSent_len b n k _ _ _) ?_
      split
      · rw [List.length_append, List.length_singleton]; omega
      · omega
end
end
end Go.Proofs.Ytgiegiobigdplaa
