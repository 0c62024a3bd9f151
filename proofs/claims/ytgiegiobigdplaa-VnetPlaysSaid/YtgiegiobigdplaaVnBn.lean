/- The document's card receives. -/
import Derived.Test.YtgiegiobigdplaaVnBm
namespace Go.Proofs.Ytgiegiobigdplaa
open Go Go.RowKit
attribute [local go_sem ↓] Go.wp_at_zero Go.wp_at_succ
set_option maxRecDepth 100000
set_option linter.unusedSimpArgs false
set_option linter.unusedVariables false

/-! ### plain -/
theorem rBack_none {M : List UInt8} {b n : Nat} {q : VQ} (h : vUsed M b n q = none) (k : Nat) : vBack M b n (k + 1) q = (none, q) := by rw [vBack, h]
theorem rBack_err {M : List UInt8} {b n : Nat} {q q' : VQ} (h : vUsed M b n q = some (none, q')) (k : Nat) : vBack M b n (k + 1) q = vBack M b n k q' := by rw [vBack, h]
theorem rBack_ok {M : List UInt8} {b n : Nat} {q q' : VQ} {x : Nat × Nat} (h : vUsed M b n q = some (some x, q')) (k : Nat) : vBack M b n (k + 1) q = (some x, q') := by rw [vBack, h]
theorem vBack_fuel (M : List UInt8) (b n : Nat) : ∀ (N : Nat) (q : VQ), q.got < 65536 → vLag M b n q = N → ∀ j k, N < j → N < k → vBack M b n j q = vBack M b n k q := by
  intro N
  induction N with
  | zero =>
    intro q hq hl j k hj hk
    obtain ⟨j, rfl⟩ : ∃ x, j = x + 1 := ⟨j - 1, by omega⟩
    obtain ⟨k, rfl⟩ : ∃ x, k = x + 1 := ⟨k - 1, by omega⟩
    rcases vUsed_cases M b n q hq with ⟨hu, _⟩ | ⟨q', _, _, h⟩ | ⟨_, _, q', _, _, _, h, _⟩
    · rw [rBack_none hu, rBack_none hu]
    · omega
    · omega
  | succ N ih =>
    intro q hq hl j k hj hk
    obtain ⟨j, rfl⟩ : ∃ x, j = x + 1 := ⟨j - 1, by omega⟩
    obtain ⟨k, rfl⟩ : ∃ x, k = x + 1 := ⟨k - 1, by omega⟩
    rcases vUsed_cases M b n q hq with ⟨hu, _⟩ | ⟨q', hu, _, h⟩ | ⟨_, _, q', hu, _, _, h, _⟩
    · rw [rBack_none hu, rBack_none hu]
    · rw [rBack_err hu, rBack_err hu]
      exact ih q' (vUsed_next hu).1 (by omega) j k (by omega) (by omega)
    · rw [rBack_ok hu, rBack_ok hu]
theorem vReceive_err {b n K : Nat} {M : List UInt8} {q q' : VQ} {out : List (List UInt8)} (hq : q.got < 65536) (h : vUsed M b n q = some (none, q')) (hl : vLag M b n q' + 1 = vLag M b n q) : vReceive b n (K + 1) M q out = vReceive b n (K + 1) M q' out := by
  have h0 := vLag_lt M b n q
  have e : vBack M b n 65536 q = vBack M b n 65536 q' := by
    rw [rBack_err h 65535]
    exact vBack_fuel M b n _ q' (vUsed_next h).1 rfl _ _ (by omega) (by omega)
  rw [vReceive, vReceive, e]
/-! ### the rows that are told, and a row of places beside them -/
structure RRows (w : World) (base : Nat) (col : Nat → Nat) (vb v : Value) (kb : Nat) (L : List (List UInt8)) : Prop where
  rows : RowsN w base (fun k => col k ≠ 0 ∨ vb.ownBlock = some k) v L
  back : ∃ xs, w.ownsRow base 3 1 vb kb xs
  bk : ∀ k, vb.ownBlock = some k → col k = 0
section
variable {w w' : World} {base kb : Nat} {col col' : Nat → Nat} {vb v : Value} {L : List (List UInt8)}
theorem RRows.go {G : Nat → Prop} (h : RRows w base col vb v kb L) (hf : Frame G w w') (hG : ∀ k, G k → k < w.heap.size → col k ≠ 0) (ho : Onto w col col') : RRows w' base col' vb v kb L := by
  obtain ⟨xs, hb⟩ := h.back
  refine ⟨h.rows.step hf (fun k _ h2 h3 => ⟨fun e => h3 (.inl (hG k e h2)), fun e => e.elim (fun e => h3 (.inl (by rw [← ho k h2]; exact e))) (fun e => h3 (.inr e))⟩), ⟨xs, hf.own hb (fun k hk e => hG k e (World.ownsRow.lt hb k hk).2 (h.bk k hk))⟩, fun k hk => ?_⟩
  rw [ho k (World.ownsRow.lt hb k hk).2]
  exact h.bk k hk
theorem RRows.keep (h : RRows w base col vb v kb L) (hb : Below w.heap.size w w') : RRows w' base col vb v kb L := h.go (Below.frameF hb (fun _ => False)) (fun _ e => e.elim) (fun _ _ => rfl)
/-- a row more is told -/
theorem RRows.push {w4 w5 : World} {x v' : Value} {vs : List Value} {r : List UInt8} (h : RRows w base col vb v kb L) (ho : w.ownsRow base 25 1 v L.length vs) (hn : ∀ g, v.ownBlock = some g → ¬ (col g ≠ 0 ∨ vb.ownBlock = some g)) (hi : RowsIn w base (fun k => col k ≠ 0 ∨ vb.ownBlock = some k) v vs L) (hcol : ∀ k, col k ≠ 0 → k < w.heap.size) (hb : base ≤ w.heap.size)
    (h24 : Below w.heap.size w w4) (hx : OwnBs w4 w.heap.size 5 x r) (h5 : w5.ownsRow base 25 1 v' (L.length + 1) (vs ++ [x])) (hg : w4.grownBy w5 v.ownBlock) (hvv : v'.ownBlock = v.ownBlock ∨ v'.ownBlock = some w4.heap.size) : RRows w5 base col vb v' kb (L ++ [r]) := by
  obtain ⟨xs, hbk⟩ := h.back
  have hN : ∀ k, (col k ≠ 0 ∨ vb.ownBlock = some k) → k < w.heap.size := fun k e => e.elim (hcol k) (fun e => (World.ownsRow.lt hbk k e).2)
  refine ⟨RowsN.push ho hn hi hN hb h24 hx h5 hg hvv, ⟨xs, (frame_grown hg (F := fun k => v.ownBlock = some k) (fun _ e => e)).own (own_below hbk h24) (fun k hk e => hn k e (.inr hk))⟩, h.bk⟩
/-- the row of places has grown -/
theorem RRows.more {w4 w5 : World} {vb' : Value} {kb' : Nat} {ys : List Value} (h : RRows w base col vb v kb L) (h24 : Below w.heap.size w w4) (hcol : ∀ k, col k ≠ 0 → k < w.heap.size) (h5 : w5.ownsRow base 3 1 vb' kb' ys) (hg : w4.grownBy w5 vb.ownBlock) (hvv : vb'.ownBlock = vb.ownBlock ∨ vb'.ownBlock = some w4.heap.size) : RRows w5 base col vb' v kb' L := by
  have h4 := h.keep h24
  have hz := h24.size
  refine ⟨h4.rows.step (frame_grown hg (F := fun k => vb.ownBlock = some k) (fun _ e => e)) (fun k _ h2 h3 => ⟨fun e => h3 (.inr e), fun e => e.elim (fun e => h3 (.inl e)) (fun e => ?_)⟩), ⟨ys, h5⟩, fun k hk => ?_⟩
  · rcases hvv with e2 | e2
    · exact h3 (.inr (by rw [← e2]; exact e))
    · rw [e2] at e
      injection e with e
      omega
  · rcases hvv with e2 | e2
    · exact h.bk k (by rw [← e2]; exact hk)
    · rw [e2] at hk
      injection hk with hk
      exact Classical.byContradiction fun e => by have := hcol k e; omega
end
def RReceivePost (base gm L b n gC : Nat) (s : VnSt) (m gi go : Nat) (vo : Value) (ho : List Nat) (col : Nat → Nat) (w : World) (e : Ending) (w' : World) : Prop :=
  ∃ v m' vi' hi' col', e = .returned v ∧ RCard w' base gm L b n gC (vReceive b n 65536 s.M s.ci []).2.1 (vReceive b n 65536 s.M s.ci []).2.2 s.co m' gi go vi' vo hi' ho col' ∧ Tie hi' (vReceive b n 65536 s.M s.ci []).2.2.busy ∧ m' ≤ m + 65536 ∧ Frame (fun k => col k ≠ 0) w w' ∧ Onto w col col' ∧
    RowsN w' w.heap.size (fun k => col' k ≠ 0) v (vReceive b n 65536 s.M s.ci []).1 ∧ (∀ j, j < n → (vReceive b n 65536 s.M s.ci []).2.2.busy[j]? = some true)
def RRecvInv (base gm L b n gC : Nat) (co : VQ) (m gi go : Nat) (vo : Value) (ho : List Nat) (col : Nat → Nat) (R : List (List UInt8) × List UInt8 × VQ) (w : World) (gk : Nat) (v vb : Value) (wr : World) : Prop :=
  ∃ q1 M1 m1 out1 vi1 hi1 col1 K kb, RCard wr base gm L b n gC M1 q1 co m1 gi go vi1 vo hi1 ho col1 ∧ Tie hi1 q1.busy ∧ Frame (fun k => col k ≠ 0) w wr ∧ Onto w col col1 ∧ RRows wr w.heap.size col1 vb v kb out1 ∧
    vReceive b n K M1 q1 out1 = R ∧ vLag M1 b n q1 + 1 ≤ gk ∧ vLag M1 b n q1 + 1 ≤ K ∧ m1 + gk ≤ m + 65536 ∧ (∀ j, j < n → q1.busy[j]? = some true) ∧ out1.length + gk ≤ 65536 ∧ kb + gk ≤ 65536
set_option maxHeartbeats 16000000 in
theorem rreceive_at (base gm L b n gC : Nat) (s : VnSt) (m gi go : Nat) (vi vo : Value) (hi ho : List Nat) (col : Nat → Nat) (w : World) (h : RCard w base gm L b n gC s.M s.ci s.co m gi go vi vo hi ho col) (ht : Tie hi s.ci.busy) (hfit : vFits L (b : Int) (n : Int) = true) (hL : L ≤ 1000000) (hm1 : m < 900000000) (hbz : ∀ j, j < n → s.ci.busy[j]? = some true) :
    Calls Try.prog 18 #[.pointer (some ⟨gC, 0, none⟩)] w (RReceivePost base gm L b n gC s m gi go vo ho col w) := by
  obtain ⟨hok, hfb⟩ := fits_parts hfit
  have hn := okN_le hok
  have HA := hid (And.intro hfit hfb)
  have Hok := hid hok
  have Hm1 := hid hm1
  unfold RReceivePost
  obtain ⟨R, hR⟩ : ∃ R, vReceive b n 65536 s.M s.ci [] = R := ⟨_, rfl⟩
  have H0 := hid (show RRecvInv base gm L b n gC s.co m gi go vo ho col R w 65536 (.slice none 0 0) (.slice none 0 0) w from
    ⟨s.ci, s.M, m, [], vi, hi, col, 65536, 0, h, ht, Frame.refl _ _, fun _ _ => rfl, ⟨RowsN.nil _ _ _, ⟨[], World.ownsRow_nil _ _ _ _⟩, fun k hk => by simp [Value.ownBlock] at hk⟩, hR, vLag_lt _ _ _ _, vLag_lt _ _ _ _, by omega, hbz, Nat.le_refl _, Nat.le_refl _⟩)
  rw [hR]
  clear h ht hok hfit hfb hbz hR hm1
  go_enter Try.func18, Try.ntmps18
  go_wp2_with fail
  go_loopg [3, 4, 5, 6, 7, 8, 9] 65536 (fun gk s3 s4 _ _ _ _ _ wr => RRecvInv base gm L b n gC s.co m gi go vo ho col R w gk s3 s4 wr)
  case atStart => exact H0.out
  case round =>
    obtain ⟨q1, M1, m1, out1, vi1, hi1, col1, K, kb, hR, hT, hF, hO, hRw, hv, hlag, hK, hmm, hbz, hol, hkl⟩ := hrel
    have R1 := hid hR
    have T1 := hid hT
    have F1 := hid hF
    have O1 := hid hO
    have W1 := hid hRw
    have Hv := hid hv
    have Hbz := hid hbz
    have Hnum := hid (And.intro hlag (And.intro hK (And.intro hmm (And.intro hol hkl))))
    obtain ⟨k, rfl⟩ : ∃ k, gk = k + 1 := ⟨gk - 1, by omega⟩
    obtain ⟨K, rfl⟩ : ∃ k, K = k + 1 := ⟨K - 1, by omega⟩
    have c0 : wr.cell? ⟨gC, 0, none⟩ = some (.pointer (some ⟨gi, 0, none⟩)) := R1.out.tab.cell 0
    have Hm2 := hid (show m1 < 1000000000 by have := Hm1.out; omega)
    have HU := hid (rused_at base gm L b n gi m1 q1 M1 (fun k => col1 k = 2) wr R1.out.qi R1.out.mem R1.out.len hL (by rw [R1.out.cm]; decide) Hok.out (by have := HA.out.2; omega) Hm2.out)
    clear hR hT hF hO hRw hv hlag hK hmm hbz hol hkl
    rcases vUsed_cases M1 b n q1 R1.out.qi.q.2.2 with ⟨hu, hl0⟩ | ⟨q', hu, hb', hl'⟩ | ⟨hd, le, q', hu, hbh, hb', hl', hdl⟩
    · rw [hu] at HU
      have e : R = (out1, M1, q1) := by rw [← Hv.out]; exact vReceive_none (rBack_none hu 65535)
      have He := hid e
      clear hu e hl0
      go_wp2_with (go_at_call 39; refine HU.out.mono ?_; rintro e w2 ⟨rfl, F', hq, hf2, hF⟩; have Q2 := hid hq; have Fr2 := hid hf2; have HF2 := hid hF; clear hq hf2 hF)
      go_ret
      rw [He.out]
      have hf3 : Frame (fun k => col1 k = 2 ∨ k = gm) wr w2 := Fr2.out.weaken (fun _ _ e => .inl e)
      obtain ⟨col2, r2, o2⟩ := R1.out.in_ (ci' := q1) (m' := m1) hf3 Q2.out HF2.out (R1.out.mem.frame Fr2.out (fun e => by rw [R1.out.cm] at e; cases e)) R1.out.len (Nat.le_refl _)
      have hz := F1.out.size
      have w2r := W1.out.go Fr2.out (fun k e _ => by rw [e]; decide) o2
      refine ⟨_, m1, vi1, hi1, col2, rfl, r2, T1.out, by have := Hnum.out; omega, F1.out.trans Fr2.out (fun k hk e => by have := O1.out k hk; rw [e] at this; omega), onto_trans O1.out o2 hz, w2r.rows.step (Frame.refl (fun _ => False) _) (fun k _ _ h3 => ⟨id, fun e => h3 (.inl e)⟩), Hbz.out⟩
    · rw [hu] at HU
      have Hst := hid (show vReceive b n (K + 1) M1 q' out1 = R by rw [← Hv.out]; exact (vReceive_err R1.out.qi.q.2.2 hu hl').symm)
      have Hlp := hid (And.intro hb' hl')
      clear hu hb' hl'
      go_wp2_with (go_at_call 39; refine HU.out.mono ?_; rintro e w2 ⟨rfl, F', hq, hf2, hF⟩; have Q2 := hid hq; have Fr2 := hid hf2; have HF2 := hid hF; clear hq hf2 hF)
      go_roundg k
      case measure => omega
      case rel =>
        have hf3 : Frame (fun k => col1 k = 2 ∨ k = gm) wr w2 := Fr2.out.weaken (fun _ _ e => .inl e)
        obtain ⟨col2, r2, o2⟩ := R1.out.in_ (ci' := q') (m' := m1) hf3 Q2.out HF2.out (R1.out.mem.frame Fr2.out (fun e => by rw [R1.out.cm] at e; cases e)) R1.out.len (Nat.le_refl _)
        have hz := F1.out.size
        have w2r := W1.out.go Fr2.out (fun k e _ => by rw [e]; decide) o2
        exact ⟨q', M1, m1, out1, vi1, hi1, col2, K + 1, kb, r2, by rw [Hlp.out.1]; exact T1.out, F1.out.trans Fr2.out (fun k hk e => by have := O1.out k hk; rw [e] at this; omega), onto_trans O1.out o2 hz, w2r, Hst.out, by have := Hnum.out; have := Hlp.out.2; omega, by have := Hnum.out; have := Hlp.out.2; omega, by have := Hnum.out; omega, by rw [Hlp.out.1]; exact Hbz.out, by have := Hnum.out; omega, by have := Hnum.out; omega⟩
    · rw [hu] at HU
      obtain ⟨i0, hi0, hne0⟩ := first_at ((T1.out.2 hd).2 hbh)
      have Hi0 := hid (And.intro hi0 hne0)
      have Hlp := hid (And.intro hb' hl')
      have Hhdn := hid (show hd < n by have := (List.getElem?_eq_some_iff.1 hbh).1; rw [R1.out.qi.q.1] at this; exact this)
      have Hfree := hid (show q'.busy[hd]? = some false by rw [hb', List.getElem?_set, if_pos rfl, if_pos (List.getElem?_eq_some_iff.1 hbh).1])
      have Hbef := hid (show ∀ j, j < hd → q'.busy[j]? = some true from fun j hj => by rw [hb', List.getElem?_set, if_neg (by omega)]; exact Hbz.out j (by have := Hhdn.out; omega))
      have Hvs := hid (vReceive_some (n := n) (k := K) (out := out1) (rBack_ok hu 65535))
      have Hlg := hid (show vLag (vAddM M1 b n q'.put hd (vPlace b n hd) 1526 2) b n (q'.add hd) = vLag M1 b n q' by
        rw [vLag_addM (by omega) Hhdn.out (by rw [R1.out.len]; have := HA.out.2; omega)]
        rfl)
      clear hu hb' hl' hi0 hne0 hbh
      go_upto_region 7 with (go_at_call 39; refine HU.out.mono ?_; rintro e w2 ⟨rfl, F', hq, hf2, hF⟩; have Q2 := hid hq; have Fr2 := hid hf2; have HF2 := hid hF; clear hq hf2 hF)
      have hf3 : Frame (fun k => col1 k = 2 ∨ k = gm) wr w2 := Fr2.out.weaken (fun _ _ e => .inl e)
      obtain ⟨col2, r2, o2⟩ := R1.out.in_ (ci' := q') (m' := m1) hf3 Q2.out HF2.out (R1.out.mem.frame Fr2.out (fun e => by rw [R1.out.cm] at e; cases e)) R1.out.len (Nat.le_refl _)
      have R2 := hid r2
      have hz1 := F1.out.size
      have hz2 := Fr2.out.size
      have W2 := hid (W1.out.go Fr2.out (fun k e _ => by rw [e]; decide) o2)
      have O2 := hid (onto_trans O1.out o2 hz1)
      have F2 := hid (F1.out.trans Fr2.out (fun k hk e => by have := O1.out k hk; rw [e] at this; omega))
      have HTk := hid (rtaken_at base vi1 hi1 i0 hd w2 R2.out.oi Hi0.out.1 Hi0.out.2 (by have := R2.out.li; have := Hm2.out; omega))
      have c5 : w2.cell? ⟨gC, 5, none⟩ = some vi1 := R2.out.tab.cell 5
      clear r2 o2 hf3 HU Q2 HF2 Fr2 c0
      go_upto_region 8 with (go_at_call 40; refine HTk.out.mono ?_; rintro e w3 ⟨A3, k3, c3, rfl, ho3, hb3⟩; have O3 := hid ho3; have B3 := hid hb3; have T3 := hid (R2.out.keep hb3).tab; have c5 : w3.cell? ⟨gC, 5, none⟩ = some vi1 := T3.out.cell 5; have z5 := T3.out.frozen 5; clear ho3 hb3)
      obtain ⟨col4, r4, o4⟩ := R2.out.inl_ (v' := .slice A3 k3 c3) (hs := hi1.take i0 ++ hi1.drop (i0 + 1)) (Below.frameF B3.out _) (own_mono O3.out (by have := R2.out.flt gC (by rw [R2.out.cC]; decide); omega)) (fun j hj => .inr (World.ownsRow.lt O3.out j hj).1) (by rw [List.length_append, List.length_take, List.length_drop]; have := R2.out.li; omega)
      have f24 : Frame (fun k => k = gC) w2 (w3.setCell ⟨gC, 5, none⟩ (.slice A3 k3 c3)) := (Below.frameF B3.out _).trans (frame_mem (grown_set w3 gC 5 (.slice A3 k3 c3))) (fun _ _ e => e)
      have R4 := hid r4
      have W4 := hid (W2.out.go f24 (fun k e _ => by rw [e, R2.out.cC]; decide) o4)
      have O4 := hid (onto_trans O2.out o4 (by omega))
      have F4 := hid (F2.out.trans f24 (fun k hk e => by have := O2.out k hk; rw [e, R2.out.cC] at this; rw [e]; omega))
      clear r4 o4 f24 W2 O2 F2 R2 T3 c5 z5 HTk O3 B3
      generalize w3.setCell ⟨gC, 5, none⟩ (.slice A3 k3 c3) = w4 at *
      by_cases hin : 26 ≤ le ∧ le ≤ 1526
      · have h1 : (26 : Int) ≤ (le : Int) := by omega
        have h2 : (le : Int) ≤ 1526 := by omega
        have HR3 := hid (show vReceive b n K (vAddM M1 b n q'.put hd (vPlace b n hd) 1526 2) (q'.add hd) (out1 ++ [(M1.drop (vPlace b n hd + 12)).take (le - 12)]) = R by
          have := Hvs.out
          rw [if_pos hin] at this
          rw [← Hv.out, this])
        have Hol := hid (show (out1 ++ [(M1.drop (vPlace b n hd + 12)).take (le - 12)]).length + k ≤ 65536 by rw [List.length_append, List.length_singleton]; have := Hnum.out; omega)
        have Hoc := hid (show out1.length + 1 ≤ 65536 by have := Hnum.out; omega)
        obtain ⟨at_, hat⟩ : ∃ x, vPlace b n hd = x := ⟨_, rfl⟩
        have Hat := hid (show at_ + le ≤ L ∧ 26 ≤ le ∧ le ≤ 1526 by
          have h3 := HA.out.2
          have h4 := Hhdn.out
          rw [← hat]
          unfold vPlace
          have : hd * 1528 + 1528 ≤ 2 * n * 1528 := by omega
          omega)
        have hatb : at_ ≤ 1000000 := by have := Hat.out; omega
        have hleb : le ≤ 1526 := hin.2
        have HAt := hid (rat_at gC b n hd w4 (R4.out.tab.cell 3) (R4.out.tab.cell 4) Hok.out (by have := HA.out.2; omega) (by have := Hhdn.out; omega))
        rw [hat] at HAt
        have HpA := hid hat
        obtain ⟨ii, hif, hz, hss, hbyy⟩ := info_parts u8info
        have hw12 : IntKind.i64.wrap ((at_ : Int) + 12) = (at_ : Int) + 12 := IntWalk.i64_in _ (by omega)
        have hwle : IntKind.i64.wrap ((at_ : Int) + (le : Int)) = (at_ : Int) + (le : Int) := IntWalk.i64_in _ (by omega)
        have hcut1 := run_cut (P := Try.prog) (T := 25) Try.underlying25 hif (some ⟨gm, 0, none⟩) L L .i64 .i64 ((at_ : Int) + 12) ((at_ : Int) + (le : Int)) (at_ + 12) (le - 12) (by omega) (by omega) (by have := Hat.out; omega)
        rw [hss, cutA_at gm 0 L _ (by have := Hat.out; omega), Nat.zero_add] at hcut1
        clear hif hz hss hbyy hat hin
        go_upto_region 10 with (go_at_call 41; (with_reducible refine HAt.out.mono ?_); rintro e w5 ⟨rfl, q, rfl⟩; have b5 := hid (below_drewN (Below.refl w4.heap.size w4) q))
        have R5 := hid (R4.out.keep b5.out)
        have W5 := hid (W4.out.keep b5.out)
        have F5 := hid (F4.out.trans (Below.frameF b5.out _) (fun _ _ e => e))
        have O5 := hid O4.out
        clear R4 W4 F4 O4 b5 HAt
        generalize w4.drewN q = w5 at *
        have c2 : (w5.alloc (.cells #[] 5)).cell? ⟨gC, 2, none⟩ = some (.slice (some ⟨gm, 0, none⟩) L L) := (R5.out.keep (below_alloc _ _)).tab.cell 2
        obtain ⟨vs, ho5, hn5, hi5⟩ := W5.out.rows
        have Ho := hid ho5
        have Hni := hid (And.intro hn5 hi5)
        clear ho5 hn5 hi5
        have HBm := hid (fun wy (hy : Below w5.heap.size w5 wy) => ((R5.out.mem.keep hy).bs (off := at_ + 12) (n := le - 12) (cap := L - (at_ + 12)) (by rw [R5.out.len]; have := Hat.out; omega) (by have := Hat.out; omega) (by simp only [maxLen]; omega)))
        have hz5 := F5.out.size
        go_upto_region 11 with (first
          | ((with_reducible show wpList _ _ _ (Oper.mk (some 56) _ _ _ _ _ :: _) _ _); refine wpList_app8 _ rfl _ _ 25 rfl w5.heap.size 5 u8ok (.slice (some ⟨w5.heap.size, 0, none⟩) 0 0) [] rfl (ownBs_litNil rfl (Nat.le_refl _)) (.slice (some ⟨gm, at_ + 12, none⟩) (le - 12) (L - (at_ + 12))) ((M1.drop (at_ + 12)).take (le - 12)) rfl (HBm.out _ (below_alloc _ _)) (by have := Hat.out; rw [List.length_take]; simp only [List.length_nil]; omega) (by simp) ?_; intro x6 w6 hown6 hb6 hg6 hat6; rw [List.nil_append] at hown6; obtain ⟨A6, c6, rfl⟩ := slice_len (n := le - 12) hown6.bs (by rw [List.length_take, List.length_drop, R5.out.len]; have := Hat.out; omega); have X6 := hid hown6; have B6 := hid ((below_alloc w5 _).trans hb6); clear hown6 hb6 hg6 hat6)
          | ((with_reducible show wpList _ _ _ (Oper.mk (some 58) _ _ _ _ _ :: _) _ _); refine wpList_app _ rfl _ _ 44 rfl w.heap.size 25 (.slice none 0 0) 1 24 slok u3 out1.length vs rfl (own_below Ho.out (below_alloc' B6.out _)) (.slice (some ⟨w6.heap.size, 0, none⟩) 1 1) 1 [.slice A6 (le - 12) c6] rfl (row_lit #[.slice A6 (le - 12) c6] 1 rfl (by decide)) (by simp [Value.oneCell']) (by have := Hoc.out; omega) (by have := Hoc.out; simp only [maxLen]; omega) (by have := B6.out.size; simp; omega) ?_; intro v7 w7 hown7 hg7 hat7; have O7r := hid hown7; have G7 := hid hg7; have T7 := hid hat7; clear hown7 hg7 hat7))
        have b24 := below_alloc' B6.out (.cells #[.slice A6 (le - 12) c6] 25)
        have hv3 : ∀ k, u3.ownBlock = some k → col4 k = 0 ∧ w.heap.size ≤ k := fun k e => ⟨Classical.byContradiction fun e2 => Hni.out.1 k e (.inl e2), (World.ownsRow.lt Ho.out k e).1⟩
        have W7 := hid (RRows.push (r := (M1.drop (at_ + 12)).take (le - 12)) W5.out Ho.out Hni.out.1 Hni.out.2 (fun k hk => (R5.out.flt k hk).2) (by omega) b24 (OwnBs.below X6.out (below_alloc _ _)) O7r.out G7.out T7.out)
        have f57 : Frame (fun z => u3.ownBlock = some z) w5 w7 := (Below.frameF b24 _).trans (frame_grown G7.out (fun g e => e)) (fun _ _ e => e)
        have R7 := hid (R5.out.frame f57 (fun k hk e => hk (hv3 k e).1))
        have F7 := hid (F5.out.trans f57 (fun k hk e => by have := (hv3 k e).2; omega))
        have O7 := O5
        rw [← HpA.out] at W7
        clear b24 f57 hv3 R5 W5 F5 O5 O7r G7 T7 X6 B6 c2 HBm Ho Hni
        have HO := hid (roffer_at base gm L b n gC M1 q' s.co m1 gi go _ vo _ ho col4 hd w7 R7.out HA.out.1 hL Hm2.out Hfree.out Hbef.out (Hhdn.out))
        have hdb : hd ≤ 65536 := by have := Hhdn.out; omega
        go_upto_region 12 with (go_at_call 32; (with_reducible refine HO.out.mono ?_); rintro e w8 ⟨⟨u, rfl⟩, vi8, col8, hr8, hf8, ho8⟩; have R8 := hid hr8; have F8 := hid hf8; have O8 := hid ho8; clear hr8 hf8 ho8)
        have W8 := hid (W7.out.go F8.out (fun k e _ => e) O8.out)
        have hz7 := F7.out.size
        have hz8 := F8.out.size
        obtain ⟨xs, hbk⟩ := W8.out.back
        have Hbk := hid hbk
        have Hkb := hid (show kb + 1 ≤ 65536 by have := Hnum.out; omega)
        clear hbk HO
        go_wp2_with ((with_reducible show wpList _ _ _ (Oper.mk (some 65) _ _ _ _ _ :: _) _ _); refine wpList_app _ rfl _ _ 47 rfl w.heap.size 3 (.int .i64 0) 1 8 intok u4 kb xs rfl (own_below Hbk.out (below_alloc _ _)) (.slice (some ⟨w8.heap.size, 0, none⟩) 1 1) 1 [.int .i64 (hd : Int)] rfl (rowS_lit 1 #[.int .i64 (hd : Int)] 1 _ rfl rfl (by simp [maxLen])) (by simp [Value.oneCell']) (by have := Hkb.out; omega) (by have := Hkb.out; simp only [maxLen]; omega) (by simp; omega) ?_; intro v9 w9 hown9 hg9 hat9; have O9 := hid hown9; have G9 := hid hg9; have X9 := hid hat9; clear hown9 hg9 hat9)
        go_roundg k
        case measure => omega
        case rel =>
          have b9 := below_alloc w8 (.cells #[.int .i64 (hd : Int)] 3)
          have W9 := W8.out.more b9 (fun k hk => (R8.out.flt k hk).2) O9.out G9.out X9.out
          have f9 : Frame (fun k => u4.ownBlock = some k) w8 w9 := (Below.frameF b9 _).trans (frame_grown G9.out (fun _ e => e)) (fun _ _ e => e)
          have R9 := R8.out.frame f9 (fun k hk e => hk (W8.out.bk k e))
          have hlo9 : ∀ k, u4.ownBlock = some k → w.heap.size ≤ k := fun k e => (World.ownsRow.lt Hbk.out k e).1
          exact ⟨_, _, m1 + 1, _, vi8, _, col8, K, kb + 1, R9, by have := tie_add (tie_erase T1.out Hi0.out.1) (by rw [← Hlp.out.1]; exact Hfree.out); show Tie _ (q'.busy.set hd true); rw [Hlp.out.1]; exact this, (F7.out.trans F8.out (fun k hk e => (onto_ne O7.out k e).elim id (fun e2 => by omega))).trans f9 (fun k hk e => by have := hlo9 k e; omega), onto_trans O7.out O8.out (by omega), W9, HR3.out,
            by rw [Hlg.out]; have := Hnum.out; have := Hlp.out.2; omega, by rw [Hlg.out]; have := Hnum.out; have := Hlp.out.2; omega, by have := Hnum.out; omega, fun j hj => by
              show (q'.busy.set hd true)[j]? = some true
              rw [List.getElem?_set]
              by_cases e : hd = j
              · rw [if_pos e, if_pos (by rw [Hlp.out.1, List.length_set, R1.out.qi.q.1]; omega)]
              · rw [if_neg e, Hlp.out.1, List.getElem?_set, if_neg e]
                exact Hbz.out j hj, Hol.out, by have := Hnum.out; omega⟩
      · have HR3 := hid (show vReceive b n K (vAddM M1 b n q'.put hd (vPlace b n hd) 1526 2) (q'.add hd) out1 = R by
          have := Hvs.out
          rw [if_neg hin] at this
          rw [← Hv.out, this])
        have Hol := hid (show out1.length + k ≤ 65536 by have := Hnum.out; omega)
        have R7 := R4
        have W7 := W4
        have F7 := F4
        have O7 := O4
        have hcs : ¬ (26 : Int) ≤ (le : Int) ∨ (26 : Int) ≤ (le : Int) ∧ ¬ (le : Int) ≤ 1526 := by omega
        clear hin R4 W4 F4 O4
        generalize w4 = w7 at *
        rcases hcs with h1 | ⟨h1, h2⟩
        all_goals
          have HO := hid (roffer_at base gm L b n gC M1 q' s.co m1 gi go _ vo _ ho col4 hd w7 R7.out HA.out.1 hL Hm2.out Hfree.out Hbef.out (Hhdn.out))
          have hdb : hd ≤ 65536 := by have := Hhdn.out; omega
          go_upto_region 12 with (go_at_call 32; (with_reducible refine HO.out.mono ?_); rintro e w8 ⟨⟨u, rfl⟩, vi8, col8, hr8, hf8, ho8⟩; have R8 := hid hr8; have F8 := hid hf8; have O8 := hid ho8; clear hr8 hf8 ho8)
          have W8 := hid (W7.out.go F8.out (fun k e _ => e) O8.out)
          have hz7 := F7.out.size
          have hz8 := F8.out.size
          obtain ⟨xs, hbk⟩ := W8.out.back
          have Hbk := hid hbk
          have Hkb := hid (show kb + 1 ≤ 65536 by have := Hnum.out; omega)
          clear hbk HO
          go_wp2_with ((with_reducible show wpList _ _ _ (Oper.mk (some 65) _ _ _ _ _ :: _) _ _); refine wpList_app _ rfl _ _ 47 rfl w.heap.size 3 (.int .i64 0) 1 8 intok u4 kb xs rfl (own_below Hbk.out (below_alloc _ _)) (.slice (some ⟨w8.heap.size, 0, none⟩) 1 1) 1 [.int .i64 (hd : Int)] rfl (rowS_lit 1 #[.int .i64 (hd : Int)] 1 _ rfl rfl (by simp [maxLen])) (by simp [Value.oneCell']) (by have := Hkb.out; omega) (by have := Hkb.out; simp only [maxLen]; omega) (by simp; omega) ?_; intro v9 w9 hown9 hg9 hat9; have O9 := hid hown9; have G9 := hid hg9; have X9 := hid hat9; clear hown9 hg9 hat9)
          go_roundg k
          case measure => omega
          case rel =>
            have b9 := below_alloc w8 (.cells #[.int .i64 (hd : Int)] 3)
            have W9 := W8.out.more b9 (fun k hk => (R8.out.flt k hk).2) O9.out G9.out X9.out
            have f9 : Frame (fun k => u4.ownBlock = some k) w8 w9 := (Below.frameF b9 _).trans (frame_grown G9.out (fun _ e => e)) (fun _ _ e => e)
            have R9 := R8.out.frame f9 (fun k hk e => hk (W8.out.bk k e))
            have hlo9 : ∀ k, u4.ownBlock = some k → w.heap.size ≤ k := fun k e => (World.ownsRow.lt Hbk.out k e).1
            exact ⟨_, _, m1 + 1, _, vi8, _, col8, K, kb + 1, R9, by have := tie_add (tie_erase T1.out Hi0.out.1) (by rw [← Hlp.out.1]; exact Hfree.out); show Tie _ (q'.busy.set hd true); rw [Hlp.out.1]; exact this, (F7.out.trans F8.out (fun k hk e => (onto_ne O7.out k e).elim id (fun e2 => by omega))).trans f9 (fun k hk e => by have := hlo9 k e; omega), onto_trans O7.out O8.out (by omega), W9, HR3.out,
              by rw [Hlg.out]; have := Hnum.out; have := Hlp.out.2; omega, by rw [Hlg.out]; have := Hnum.out; have := Hlp.out.2; omega, by have := Hnum.out; omega, fun j hj => by
                show (q'.busy.set hd true)[j]? = some true
                rw [List.getElem?_set]
                by_cases e : hd = j
                · rw [if_pos e, if_pos (by rw [Hlp.out.1, List.length_set, R1.out.qi.q.1]; omega)]
                · rw [if_neg e, Hlp.out.1, List.getElem?_set, if_neg e]
                  exact Hbz.out j hj, Hol.out, by have := Hnum.out; omega⟩
end Go.Proofs.Ytgiegiobigdplaa
