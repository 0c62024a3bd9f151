/- The program's card receives. -/
import Derived.Test.YtgiegiobigdplaaVnP
namespace Go.Proofs.Ytgiegiobigdplaa
open Go Go.RowKit
attribute [local go_sem ↓] Go.wp_at_zero Go.wp_at_succ
set_option maxRecDepth 100000
set_option linter.unusedSimpArgs false
set_option linter.unusedVariables false

/-! ### rows of bytes, each by itself -/
def RowsIn (w : World) (base : Nat) (N : Nat → Prop) (v : Value) (vs : List Value) (L : List (List UInt8)) : Prop :=
  ∀ (i : Nat) (x : Value) (r : List UInt8), vs[i]? = some x → L[i]? = some r → OwnBs w base 5 x r ∧ ∀ g, x.ownBlock = some g → ¬ N g ∧ v.ownBlock ≠ some g
def RowsN (w : World) (base : Nat) (N : Nat → Prop) (v : Value) (L : List (List UInt8)) : Prop :=
  ∃ vs, w.ownsRow base 25 1 v L.length vs ∧ (∀ g, v.ownBlock = some g → ¬ N g) ∧ RowsIn w base N v vs L
theorem RowsN.nil (w : World) (base : Nat) (N : Nat → Prop) : RowsN w base N (.slice none 0 0) [] := ⟨[], World.ownsRow_nil w base _ 1, (fun g h => by simp [Value.ownBlock] at h), (fun i x r h => by simp at h)⟩
theorem RowsN.step {w w' : World} {base : Nat} {N N' G : Nat → Prop} {v : Value} {L : List (List UInt8)} (h : RowsN w base N v L) (hf : Frame G w w') (hG : ∀ k, base ≤ k → k < w.heap.size → ¬ N k → ¬ G k ∧ ¬ N' k) : RowsN w' base N' v L := by
  obtain ⟨vs, ho, hn, hi⟩ := h
  have a := fun g hg => hG g (World.ownsRow.lt ho g hg).1 (World.ownsRow.lt ho g hg).2 (hn g hg)
  refine ⟨vs, hf.own ho (fun g hg => (a g hg).1), fun g hg => (a g hg).2, fun i x r hx hr => ?_⟩
  obtain ⟨h1, h2⟩ := hi i x r hx hr
  have c := fun g hg => hG g (World.ownsRow.lt h1 g hg).1 (World.ownsRow.lt h1 g hg).2 (h2 g hg).1
  exact ⟨hf.own h1 (fun g hg => (c g hg).1), fun g hg => ⟨(c g hg).2, (h2 g hg).2⟩⟩
theorem RowsN.push {w2 w4 w5 : World} {base : Nat} {N : Nat → Prop} {v v' x : Value} {vs : List Value} {out : List (List UInt8)} {r : List UInt8} (ho : w2.ownsRow base 25 1 v out.length vs) (hn : ∀ g, v.ownBlock = some g → ¬ N g) (hi : RowsIn w2 base N v vs out)
    (hN : ∀ k, N k → k < w2.heap.size) (hb : base ≤ w2.heap.size) (h24 : Below w2.heap.size w2 w4) (hx : OwnBs w4 w2.heap.size 5 x r)
    (h5 : w5.ownsRow base 25 1 v' (out.length + 1) (vs ++ [x])) (hg : w4.grownBy w5 v.ownBlock) (hvv : v'.ownBlock = v.ownBlock ∨ v'.ownBlock = some w4.heap.size) : RowsN w5 base N v' (out ++ [r]) := by
  have hlen : vs.length = out.length := by have := ho.1; omega
  have hz := h24.size
  refine ⟨vs ++ [x], by rw [List.length_append]; exact h5, fun g hg' e => ?_, fun i y s hy hs => ?_⟩
  · rcases hvv with e2 | e2
    · exact hn g (by rw [← e2]; exact hg') e
    · rw [e2] at hg'
      injection hg' with hg'
      have := hN g e
      omega
  · by_cases hlt : i < vs.length
    · rw [List.getElem?_append_left hlt] at hy
      rw [List.getElem?_append_left (by omega)] at hs
      obtain ⟨h1, h2⟩ := hi i y s hy hs
      refine ⟨own_same (own_below h1 h24) (fun g hg' => ?_), fun g hg' => ⟨(h2 g hg').1, fun e => ?_⟩⟩
      · have hl := World.ownsRow.lt h1 g hg'
        exact hg.block g (by omega) (fun e => (h2 g hg').2 e.symm)
      · have hl := World.ownsRow.lt h1 g hg'
        rcases hvv with e2 | e2
        · exact (h2 g hg').2 (by rw [← e2]; exact e)
        · rw [e2] at e
          injection e with e
          omega
    · have hi2 : i = vs.length := by
        have := (List.getElem?_eq_some_iff.1 hy).1
        rw [List.length_append] at this
        simp at this
        omega
      subst hi2
      rw [List.getElem?_append_right (Nat.le_refl _), Nat.sub_self] at hy
      rw [hlen, List.getElem?_append_right (Nat.le_refl _), Nat.sub_self] at hs
      simp at hy hs
      subst hy
      subst hs
      have hnv : ∀ g, x.ownBlock = some g → v.ownBlock ≠ some g := fun g hg' e => by
        have h1 := World.ownsRow.lt hx g hg'
        have h2 := World.ownsRow.lt ho g e
        omega
      refine ⟨own_same (own_mono hx hb) (fun g hg' => ?_), fun g hg' => ⟨fun e => ?_, fun e => ?_⟩⟩
      · have hl := World.ownsRow.lt hx g hg'
        exact hg.block g hl.2 (fun e => hnv g hg' e.symm)
      · have hl := World.ownsRow.lt hx g hg'
        have := hN g e
        omega
      · have hl := World.ownsRow.lt hx g hg'
        rcases hvv with e2 | e2
        · exact hnv g hg' (by rw [← e2]; exact e)
        · rw [e2] at e
          injection e with e
          omega
theorem slinfo : (Try.prog.info? 25).map (fun i => (i.zero, i.size, i.bytes)) = some (some (.slice none 0 0), 1, 24) := by kernel_rfl
theorem slok : ElemOk Try.prog 44 25 (.slice none 0 0) 1 24 := by
  obtain ⟨i, hi, hz, hs, hb⟩ := info_parts slinfo
  exact ⟨Try.underlying44, ⟨i, hi, hz, hs, hb⟩, rfl, by decide, by decide⟩

/-! ### plain -/
theorem vReceive_none {b n k : Nat} {M : List UInt8} {q q' : VQ} {out : List (List UInt8)} (h : vBack M b n 65536 q = (none, q')) : vReceive b n (k + 1) M q out = (out, M, q') := by rw [vReceive, h]
theorem vReceive_some {b n k p l : Nat} {M : List UInt8} {q q' : VQ} {out : List (List UInt8)} (h : vBack M b n 65536 q = (some (p, l), q')) :
    vReceive b n (k + 1) M q out = vReceive b n k (vAddM M b n q'.put p (vPlace b n p) 1526 2) (q'.add p) (if 26 ≤ l ∧ l ≤ 1526 then out ++ [(M.drop (vPlace b n p + 12)).take (l - 12)] else out) := by rw [vReceive, h]
theorem leAt_addM {M : List UInt8} {b n put i addr len fl q k : Nat} (hn : 0 < n) (hi : i < n) (hb : b + vSize n ≤ M.length) (ha : q + k ≤ b ∨ b + (18 * n + 4) ≤ q) : leAt (vAddM M b n put i addr len fl) q k = leAt M q k := by
  have hm : put % n < n := Nat.mod_lt _ hn
  unfold vSize at hb
  unfold vAddM
  have e1 : (putAt M (b + 16 * i) 8 addr).length = M.length := putAt_len (by omega)
  have e2 : (putAt (putAt M (b + 16 * i) 8 addr) (b + (16 * i + 8)) 4 len).length = M.length := by rw [putAt_len (by omega), e1]
  have e3 : (putAt (putAt (putAt M (b + 16 * i) 8 addr) (b + (16 * i + 8)) 4 len) (b + (16 * i + 12)) 2 fl).length = M.length := by rw [putAt_len (by omega), e2]
  have e4 : (putAt (putAt (putAt (putAt M (b + 16 * i) 8 addr) (b + (16 * i + 8)) 4 len) (b + (16 * i + 12)) 2 fl) (b + (16 * i + 14)) 2 0).length = M.length := by rw [putAt_len (by omega), e3]
  have e5 : (putAt (putAt (putAt (putAt (putAt M (b + 16 * i) 8 addr) (b + (16 * i + 8)) 4 len) (b + (16 * i + 12)) 2 fl) (b + (16 * i + 14)) 2 0) (b + (16 * n + 4 + 2 * (put % n))) 2 i).length = M.length := by rw [putAt_len (by omega), e4]
  rw [leAt_put (by omega) (by omega), leAt_put (by omega) (by omega), leAt_put (by omega) (by omega), leAt_put (by omega) (by omega), leAt_put (by omega) (by omega), leAt_put (by omega) (by omega)]
theorem vLag_addM {M : List UInt8} {b n put i addr len fl : Nat} {q : VQ} (hn : 0 < n) (hi : i < n) (hb : b + vSize n ≤ M.length) : vLag (vAddM M b n put i addr len fl) b n q = vLag M b n q := by
  unfold vLag
  rw [leAt_addM hn hi hb (by omega)]

/-! ### the walk -/
theorem vcard_offer_in {w : World} {base gm L b n gC : Nat} {M : List UInt8} {q co : VQ} {m : Nat} {I : CardIds} {p : Nat} (h : CardAt w base gm L b n gC M q co m I) (hfit : vFits L (b : Int) (n : Int) = true) (hL : L ≤ 1000000) (hm1 : m < 1000000000)
    (hi : q.busy[p]? = some false) (hlt : ∀ j, j < p → q.busy[j]? = some true) :
    Calls Try.prog 29 #[.pointer (some ⟨gC, 1, none⟩), .int .i64 (p : Int), .int .i64 1526, .bool true] w (OfferPost base gm b n q m I.gdi I.gpi I.ghi p (vPlace b n p) 1526 2 I.FI M w) := by
  obtain ⟨hok, hfb⟩ := fits_parts hfit
  exact voffer_at base gm b n gC 1 I.gdi (b + 2 * vSize n) I.gpi I.ghi m p (vPlace b n p) 1526 true 2 q I.FI M w h.qi h.qci h.mem (fun e => h.nm (.inr (.inl e))) (fun e => h.nm (.inl e.symm)) h.ni hok (by rw [h.len]; omega) hi hlt (by omega) rfl (by decide) hm1 rfl
/-- what a Receive holds between its rounds -/
def RecvInv (base gm L b n gC : Nat) (co : VQ) (m : Nat) (I : CardIds) (R : List (List UInt8) × List UInt8 × VQ) (w : World) (gk : Nat) (v : Value) (wr : World) : Prop :=
  ∃ I1 q1 M1 m1 out1, CardAt wr base gm L b n gC M1 q1 co m1 I1 ∧ Frame (fun k => I.foot gC k ∨ k = gm) w wr ∧ (∀ k, I1.foot gC k → I.foot gC k ∨ w.heap.size ≤ k) ∧ RowsN wr w.heap.size (I1.foot gC) v out1 ∧
    vReceive b n gk M1 q1 out1 = R ∧ vLag M1 b n q1 + 1 ≤ gk ∧ m1 + gk ≤ m + 65536 ∧ (∀ j, j < n → q1.busy[j]? = some true) ∧ out1.length + gk ≤ 65536
theorem recv_round {base gm L b n gC : Nat} {co : VQ} {m : Nat} {I : CardIds} {R : List (List UInt8) × List UInt8 × VQ} {w w3 w4 : World} {v : Value} {e : Ending} {k p m1 : Nat} {I1 : CardIds} {q' : VQ} {M1 : List UInt8} {out3 : List (List UInt8)}
    (hA : CardAt w3 base gm L b n gC M1 q' co m1 I1) (hfit : vFits L (b : Int) (n : Int) = true) (hf : Frame (fun k => I.foot gC k ∨ k = gm) w w3) (hI : ∀ k, I1.foot gC k → I.foot gC k ∨ w.heap.size ≤ k) (hr : RowsN w3 w.heap.size (I1.foot gC) v out3)
    (hgm : gm < w.heap.size) (hR : vReceive b n k (vAddM M1 b n q'.put p (vPlace b n p) 1526 2) (q'.add p) out3 = R) (hlag : vLag M1 b n q' + 1 ≤ k) (hm : m1 + 1 + k ≤ m + 65536) (hp : p < n) (hbz : ∀ j, j < n → j ≠ p → q'.busy[j]? = some true) (hlen : out3.length + k ≤ 65536)
    (hO : OfferPost base gm b n q' m1 I1.gdi I1.gpi I1.ghi p (vPlace b n p) 1526 2 I1.FI M1 w3 e w4) : RecvInv base gm L b n gC co m I R w k v w4 := by
  obtain ⟨hok, hfb⟩ := fits_parts hfit
  obtain ⟨_, FI', hq, hmem, hf4, hn4⟩ := hO
  have hl4 : (vAddM M1 b n q'.put p (vPlace b n p) 1526 2).length = L := by rw [vAddM_len _ _ _ _ _ _ _ _ (by omega) hp (by rw [hA.len]; omega), hA.len]
  have ha := hA.in_ hf4 hq hn4 hmem hl4 (Nat.le_succ m1)
  have hz := hf.size
  refine ⟨_, _, _, m1 + 1, out3, ha.1, hf.trans hf4 (fun k hk e => ?_), fun k hk => ?_, hr.step hf4 (fun k h1 h2 h3 => ⟨fun e => ?_, fun e => ?_⟩), hR, ?_, hm, fun j hj => ?_, hlen⟩
  · rcases e with e | e
    · rcases hI k (.inr (.inl e)) with e | e
      · exact .inl e
      · omega
    · exact .inr e
  · rcases ha.2 k hk with e | e
    · exact hI k e
    · exact .inr (Nat.le_trans hz e)
  · rcases e with e | e
    · exact h3 (.inr (.inl e))
    · omega
  · rcases ha.2 k e with e | e
    · exact h3 e
    · omega
  · have e : vLag (vAddM M1 b n q'.put p (vPlace b n p) 1526 2) b n (q'.add p) = vLag M1 b n q' := by
      rw [vLag_addM (by omega) hp (by rw [hA.len]; omega)]
      rfl
    rw [e]
    exact hlag
  · show (q'.busy.set p true)[j]? = some true
    rw [List.getElem?_set]
    by_cases e : p = j
    · subst e
      rw [if_pos rfl, if_pos (by rw [hA.qi.len]; exact hj)]
    · rw [if_neg e]
      exact hbz j hj (fun e2 => e e2.symm)
def ReceivePost (base gm L b n gC : Nat) (s : VnSt) (m : Nat) (I : CardIds) (w : World) (e : Ending) (w' : World) : Prop :=
  ∃ v m' I', e = .returned v ∧ CardAt w' base gm L b n gC (vReceive b n 65536 s.M s.ci []).2.1 (vReceive b n 65536 s.M s.ci []).2.2 s.co m' I' ∧ m' ≤ m + 65536 ∧ Frame (fun k => I.foot gC k ∨ k = gm) w w' ∧ (∀ k, I'.foot gC k → I.foot gC k ∨ w.heap.size ≤ k) ∧
    RowsN w' w.heap.size (I'.foot gC) v (vReceive b n 65536 s.M s.ci []).1 ∧ (∀ j, j < n → (vReceive b n 65536 s.M s.ci []).2.2.busy[j]? = some true)
set_option maxHeartbeats 16000000 in
theorem vreceive_at (base gm L b n gC : Nat) (s : VnSt) (m : Nat) (I : CardIds) (w : World) (h : CardAt w base gm L b n gC s.M s.ci s.co m I) (hfit : vFits L (b : Int) (n : Int) = true) (hL : L ≤ 1000000) (hm1 : m < 900000000) (hbz : ∀ j, j < n → s.ci.busy[j]? = some true) :
    Calls Try.prog 17 #[.pointer (some ⟨gC, 0, none⟩)] w (ReceivePost base gm L b n gC s m I w) := by
  obtain ⟨hok, hfb⟩ := fits_parts hfit
  have hn := okN_le hok
  obtain ⟨R, hR⟩ : ∃ R, vReceive b n 65536 s.M s.ci [] = R := ⟨_, rfl⟩
  have hgm : gm < w.heap.size := Blk.lt h.mem
  have H0 := hid (show RecvInv base gm L b n gC s.co m I R w 65536 (.slice none 0 0) w from
    ⟨I, s.ci, s.M, m, [], h, Frame.refl _ _, fun k hk => .inl hk, RowsN.nil _ _ _, hR, by have := vLag_lt s.M b n s.ci; omega, Nat.le_refl _, hbz, Nat.le_refl _⟩)
  have HA := hid (And.intro hfit hfb)
  have Hok := hid hok
  have Hgm := hid hgm
  unfold ReceivePost
  rw [hR]
  obtain ⟨fr, hfr⟩ : ∃ x, b + 2 * vSize n = x := ⟨_, rfl⟩
  have hfrL : fr ≤ 1000000 := by omega
  have Hfr := hid hfr
  have Hm1 := hid hm1
  clear h hR hbz hok hfit hfb hgm hfr hm1
  go_enter Try.func17, Try.ntmps17
  go_wp2_with fail
  go_loopg [3, 4, 5, 6] 65536 (fun gk s3 _ _ _ wr => RecvInv base gm L b n gC s.co m I R w gk s3 wr)
  case atStart => exact H0.out
  case round =>
    obtain ⟨I1, q1, M1, m1, out1, hA, hf, hI, hr, hR, hlag, hmk, hbz, hlen⟩ := hrel
    have A1 := hid hA
    have F1 := hid hf
    have I1f := hid hI
    have Rw := hid hr
    have R1 := hid hR
    have Hlag := hid hlag
    have Hmk := hid hmk
    have Hbz := hid hbz
    have Hlen := hid hlen
    obtain ⟨k, rfl⟩ : ∃ k, gk = k + 1 := ⟨gk - 1, by omega⟩
    obtain ⟨B, hB⟩ : ∃ B, vBack M1 b n 65536 q1 = B := ⟨_, rfl⟩
    have HB := hid (vqback_at base gm b n gC 1 I1.gdi (b + 2 * vSize n) I1.gpi I1.ghi m1 q1 I1.FI M1 wr A1.out.qi A1.out.qci A1.out.mem (fun e => A1.out.nm (.inr (.inl e))) A1.out.ni Hok.out (by rw [A1.out.len]; have := HA.out.2; omega) B hB)
    have hsp := vBack_spec M1 b n 65536 q1 A1.out.qi.got (vLag_lt _ _ _ _)
    rw [hB] at hsp
    clear hA hf hI hr hR hlag hmk hbz hlen
    rcases hsp with ⟨q', rfl, _, _, hqb, _, _⟩ | ⟨p, l, q', rfl, _, hqp, hbp, hqb, hlg, _⟩
    · have e : R = (out1, M1, q') := by rw [← R1.out]; exact vReceive_none hB
      have He := hid e
      have Hqb := hid hqb
      clear e hB hqb
      go_wp2_with (go_at_call 36; refine HB.out.mono ?_; rintro e w2 ⟨rfl, hq2, hf2⟩; have Q2 := hid hq2; have F2 := hid hf2; clear hq2 hf2; unfold backV)
      go_ret
      rw [He.out]
      have ha := A1.out.in_ (F2.out.weaken (F' := fun k => I1.fi k ∨ k = gm) (fun _ _ e => .inl e)) Q2.out (fun k hk => .inl hk) (A1.out.mem.frame F2.out (fun e => A1.out.nm (.inr (.inl e)))) A1.out.len (Nat.le_refl m1)
      refine ⟨_, m1, _, rfl, ha.1, by have := Hmk.out; omega, F1.out.trans F2.out (fun z hz e => ?_), I1f.out, Rw.out.step F2.out (fun z h1 h2 h3 => ⟨fun e => h3 (.inr (.inl e)), h3⟩), fun j hj => by rw [Hqb.out]; exact Hbz.out j hj⟩
      rcases I1f.out z (.inr (.inl e)) with e | e
      · exact .inl e
      · omega
    · have hpn : p < n := by have := (List.getElem?_eq_some_iff.1 hbp).1; rw [A1.out.qi.len] at this; exact this
      have hR2 : vReceive b n k (vAddM M1 b n q'.put p (vPlace b n p) 1526 2) (q'.add p) (if 26 ≤ l ∧ l ≤ 1526 then out1 ++ [(M1.drop (vPlace b n p + 12)).take (l - 12)] else out1) = R := by rw [← R1.out]; exact (vReceive_some hB).symm
      have hbz2 : ∀ j, j < n → j ≠ p → q'.busy[j]? = some true := fun j hj hne => by rw [hqb, List.getElem?_set, if_neg (fun e => hne e.symm)]; exact Hbz.out j hj
      have hbp2 : q'.busy[p]? = some false := by rw [hqb, List.getElem?_set, if_pos rfl, if_pos (by rw [A1.out.qi.len]; exact hpn)]
      have Hq := hid (And.intro hbz2 hbp2)
      have Hlg := hid hlg
      have HO := hid (fun wy (hy : CardAt wy base gm L b n gC M1 q' s.co m1 I1) => vcard_offer_in (p := p) hy HA.out.1 hL (by have := Hmk.out; have := Hm1.out; omega) hbp2 (fun j hj => hbz2 j (by omega) (by omega)))
      have hp0 : ¬ (p : Int) < 0 := by omega
      clear hbp hqb hbz2 hbp2 hB hlg
      by_cases hin : 26 ≤ l ∧ l ≤ 1526
      · rw [if_pos hin] at hR2
        obtain ⟨t, ht⟩ : ∃ t, b + 2 * vSize n + p * 1528 = t := ⟨_, rfl⟩
        have hpl : vPlace b n p = t := ht
        have HAt := hid (fun wy (hy : CardAt wy base gm L b n gC M1 q' s.co m1 I1) => vqat_at gC 1 I1.gdi (b + 2 * vSize n) I1.gpi I1.ghi n p wy hy.qci (by rw [Hfr.out]; exact hfrL) (by omega))
        rw [ht] at HAt
        rw [hpl] at hR2 HO
        have HR2 := hid hR2
        have Hpl := hid hpl
        have htL : t + 1528 ≤ L := by have := HA.out.2; unfold vPlace at hpl; omega
        have hl1 : (26 : Int) ≤ (l : Int) := by omega
        have hl2 : (l : Int) ≤ 1526 := by omega
        obtain ⟨ii, hif, hz, hss, hbyy⟩ := info_parts u8info
        have hcut1 := run_cut (P := Try.prog) (T := 25) Try.underlying25 hif (some ⟨gm, 0, none⟩) L L .i64 .i64 ((t : Int) + 12) ((t : Int) + (l : Int)) (t + 12) (l - 12) (by omega) (by omega) (by omega)
        rw [hss, cutA_at gm 0 L _ (by omega), Nat.zero_add] at hcut1
        have HtL := hid (And.intro htL hin)
        have htb : t ≤ 1000000 := by omega
        clear hR2 hpl ht htL hin hif hz hss hbyy
        go_upto_region 8 with (first
          | (go_at_call 36; refine HB.out.mono ?_; rintro e w2 ⟨rfl, hq2, hf2⟩; have F2 := hid hf2; have A2 := hid (A1.out.in_ (F2.out.weaken (F' := fun k => I1.fi k ∨ k = gm) (fun _ _ e => .inl e)) hq2 (fun k hk => .inl hk) (A1.out.mem.frame F2.out (fun e => A1.out.nm (.inr (.inl e)))) A1.out.len (Nat.le_refl m1)).1; have c0 : w2.cell? ⟨gC, 0, none⟩ = some (.slice (some ⟨gm, 0, none⟩) L L) := A2.out.tab.cell 0; obtain ⟨vs, ho, hnn, hri⟩ := Rw.out.step F2.out (N' := I1.foot gC) (fun z h1 h2 h3 => ⟨fun e => h3 (.inr (.inl e)), h3⟩); have Ho := hid ho; have Hri := hid (And.intro hnn hri); clear hq2 hf2 ho hnn hri; unfold backV)
          | (go_at_call 38; refine (HAt.out _ A2.out).mono ?_; rintro e w' ⟨rfl, hw⟩; have hw := hw.symm; subst hw)
          | (go_at_call 43; refine (clone_any _ ((M1.drop (t + 12)).take (l - 12)) _ (A2.out.mem.bs (by rw [A2.out.len]; have := HtL.out; omega) (by have := HtL.out; omega) (by simp only [maxLen]; omega)) (by simp; have := HtL.out; omega)).mono ?_; rintro e w3 ⟨x, rfl, hx, hb3⟩; obtain ⟨A9, c9, rfl⟩ := slice_len (n := l - 12) hx.bs (by rw [List.length_take, List.length_drop, A2.out.len]; have := HtL.out; omega); have X3 := hid hx; have B3 := hid hb3; clear hx hb3)
          | ((with_reducible show wpList _ _ _ (Oper.mk (some 41) _ _ _ _ _ :: _) _ _); refine wpList_app _ rfl _ _ 44 rfl w.heap.size 25 (.slice none 0 0) 1 24 slok _ out1.length vs rfl (own_below Ho.out (below_alloc' B3.out _)) _ 1 [.slice A9 (l - 12) c9] rfl (row_lit #[.slice A9 (l - 12) c9] 1 rfl (by decide)) (by simp [Value.oneCell']) (by have := Hlen.out; omega) (by simp only [maxLen]; have := Hlen.out; omega) (by have := F1.out.size; have := F2.out.size; have := B3.out.size; simp; omega) ?_; intro v5 w5 hown5 hg5 hat5; have O5 := hid hown5; have G5 := hid hg5; have T5 := hid hat5; clear hown5 hg5 hat5)
          | fail)
        have b24 := below_alloc' B3.out (.cells #[.slice A9 (l - 12) c9] 25)
        have hw2 : w.heap.size ≤ w2.heap.size := Nat.le_trans F1.out.size F2.out.size
        have Rw5 := hid (RowsN.push (N := I1.foot gC) Ho.out Hri.out.1 Hri.out.2 (fun z hz => (A2.out.bd z hz).2) hw2 b24 (OwnBs.below X3.out (below_alloc _ _)) O5.out G5.out T5.out)
        have f25 : Frame (fun z => (u3 : Value).ownBlock = some z) w2 w5 := (Below.frameF b24 _).trans (frame_grown G5.out (fun g e => e)) (fun _ _ e => e)
        have A5 := hid (A2.out.frame f25 (fun z hz e => by
          have h1 := World.ownsRow.lt Ho.out z e
          rcases hz with hz | hz
          · exact Hri.out.1 z e hz
          · have := Hgm.out; omega))
        have hz1 := F1.out.size
        have f02 := F1.out.trans F2.out (fun z hz e => by
          rcases I1f.out z (.inr (.inl e)) with e | e
          · exact .inl e
          · omega)
        have f05 := hid (f02.trans f25 (fun z hz e => by
          have h1 := World.ownsRow.lt Ho.out z e
          omega))
        have HOf := hid (HO.out w5 A5.out)
        clear b24 hw2 f25 hz1 f02
        go_wp2_with (go_at_call 29; refine HOf.out.mono ?_; rintro e w6 hO; have O6 := hid hO; obtain ⟨⟨u, rfl⟩, _⟩ := hO)
        go_roundg k
        case measure => omega
        case rel =>
          have hO := O6.out
          rw [← Hpl.out] at hO
          exact recv_round A5.out HA.out.1 f05.out I1f.out Rw5.out Hgm.out (by rw [Hpl.out]; exact HR2.out) (by have := Hlag.out; have := Hlg.out; omega) (by have := Hmk.out; omega) hpn Hq.out.1 (by rw [List.length_append, List.length_singleton]; have := Hlen.out; omega) hO
      · rw [if_neg hin] at hR2
        have HR2 := hid hR2
        have hz1 := F1.out.size
        have hl12 : ¬ (26 : Int) ≤ (l : Int) ∨ (26 : Int) ≤ (l : Int) ∧ ¬ (l : Int) ≤ 1526 := by omega
        clear hR2 hin
        rcases hl12 with hl1 | ⟨hl1, hl2⟩
        all_goals
          go_wp2_with (first
            | (go_at_call 36; refine HB.out.mono ?_; rintro e w2 ⟨rfl, hq2, hf2⟩; have F2 := hid hf2; have A2 := hid (A1.out.in_ (F2.out.weaken (F' := fun k => I1.fi k ∨ k = gm) (fun _ _ e => .inl e)) hq2 (fun k hk => .inl hk) (A1.out.mem.frame F2.out (fun e => A1.out.nm (.inr (.inl e)))) A1.out.len (Nat.le_refl m1)).1; have HOf := hid (HO.out w2 A2.out); clear hq2 hf2; unfold backV)
            | (go_at_call 29; refine HOf.out.mono ?_; rintro e w6 hO; have O6 := hid hO; obtain ⟨⟨u, rfl⟩, _⟩ := hO))
          go_roundg k
          case measure => omega
          case rel =>
            have f02 := F1.out.trans F2.out (fun z hz e => by
              rcases I1f.out z (.inr (.inl e)) with e | e
              · exact .inl e
              · omega)
            exact recv_round A2.out HA.out.1 f02 I1f.out (Rw.out.step F2.out (fun z h1 h2 h3 => ⟨fun e => h3 (.inr (.inl e)), h3⟩)) Hgm.out HR2.out (by have := Hlag.out; have := Hlg.out; omega) (by have := Hmk.out; omega) hpn Hq.out.1 (by have := Hlen.out; omega) O6.out
end Go.Proofs.Ytgiegiobigdplaa
