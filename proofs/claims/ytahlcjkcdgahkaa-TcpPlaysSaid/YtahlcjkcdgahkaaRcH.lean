/- The document's Send, Recv, New. -/
import Derived.Test.YtahlcjkcdgahkaaRcG
namespace Go.Proofs.Ytahlcjkcdgahkaa
open Go Go.RowKit
attribute [local go_sem ↓] Go.wp_at_zero Go.wp_at_succ
set_option maxRecDepth 100000
set_option linter.unusedSimpArgs false

/-- another slice stands for what is to be sent -/
theorem RcAt.swapSnt {w6 : World} {base g : Nat} {cs : List Value} {vi vo vs v6 : Value} {i s s' : List UInt8} {lt : List (Nat × UInt8)} {F : Nat → Prop} (h : RcAt w6 base g cs vi vo vs i lt s F) (hr : RowAtS w6 base 5 1 v6 s'.length (s'.map u8v)) (hap : ∀ k, vi.ownBlock = some k → v6.ownBlock ≠ some k) :
    RcAt (w6.setCell ⟨g, 10, none⟩ v6) base g (cs.set 10 v6) vi vo v6 i lt s' (fun k => F k ∨ v6.ownBlock = some k) := by
  have hq := h.set1 10 v6
  have hgs := grown_set w6 g 10 v6
  refine ⟨hq.tab, hq.inn, hq.out, hr.same fun z hz => hgs.block z (hr.lt hz).2 (fun e => ?_), hap, .inl hq.fg, fun k hk => .inl (hq.fi k hk), fun k hk => .inl (hq.fo k hk), fun k hk => .inr hk, fun k hk => ?_⟩
  · injection e with e; subst e; exact hr.ne h.tab (by decide) hz
  · rcases hk with hk | hk
    · exact hq.flt k hk
    · have := hr.lt hk
      have := hgs.size
      omega
def RSendPost (base g : Nat) (c : TConn) (b : List UInt8) (q : Nat) (F : Nat → Prop) (w : World) (e : Ending) (w' : World) : Prop :=
  e = .returned (.int .i64 (tSend c b).2) ∧ ∃ F', RConn w' base g (tSend c b).1 q F' ∧ Frame F w w' ∧ ∀ k, F' k → F k ∨ w.heap.size ≤ k
set_option maxHeartbeats 4000000 in
theorem rsend_conn (base g : Nat) (c : TConn) (q : Nat) (F : Nat → Prop) (b : List UInt8) (A : Option Addr) (n cap : Nat) (w : World) (h : RConn w base g c q F) (ho : OutOk c) (hd : Bs w (.slice A n cap) b) (hl : n ≤ 100000) :
    Calls Try.prog 48 #[.pointer (some ⟨g, 0, none⟩), .slice A n cap] w (RSendPost base g c b q F w) := by
  have R0 := hid h
  have D0 := hid hd
  have Hbl := hid (show b.length = n from hd.open.1)
  obtain ⟨own, owe, gv, lt, vi, vo, vs, h1, h2⟩ := h
  have H1 := hid h1
  have H2 := hid h2
  obtain ⟨len, hlen⟩ : ∃ l, c.out.bytes.length = l := ⟨_, rfl⟩
  obtain ⟨SA, scap, rfl⟩ : ∃ A c2, vs = .slice A len c2 := by rw [← hlen]; obtain ⟨_, A, c2, rfl, _⟩ := h1.snt.rowN; exact ⟨A, c2, rfl⟩
  have hll : len ≤ 65536 := by rw [← hlen]; exact ho.len
  obtain ⟨st, hst⟩ : ∃ x, c.state = x := ⟨_, rfl⟩
  obtain ⟨en, hen⟩ : ∃ x, c.out.ended = x := ⟨_, rfl⟩
  have a2 : w.cell? ⟨g, 2, none⟩ = some (.int .i64 st) := R0.out.c2 hst
  have a13 : w.cell? ⟨g, 13, none⟩ = some (.bool en) := by rw [← hen]; exact h1.tab.cell 13
  have a10 : w.cell? ⟨g, 10, none⟩ = some (.slice SA len scap) := h1.tab.cell 10
  have Hst := hid hst
  have Hen := hid hen
  have Hlen := hid hlen
  have hcs : (st ≠ 2 ∧ (st != 2) = true ∧ st ≠ 3 ∧ (st != 3) = true) ∨ ((st = 2 ∨ st = 3) ∧ (en = true ∨ en = false)) := by
    by_cases z1 : st = 2
    · right; exact ⟨.inl z1, by cases en <;> simp⟩
    · by_cases z2 : st = 3
      · right; exact ⟨.inr z2, by cases en <;> simp⟩
      · left; simp [z1, z2]
  clear h1 h2 ho hd hst hen hlen
  rcases hcs with ⟨z1, z2, z3, z4⟩ | ⟨hs23, rfl | rfl⟩
  · have HR := hid (show tSend c b = (c, 1) by unfold tSend; rw [if_pos (.inr (by rw [Hst.out]; exact ⟨z1, z3⟩))])
    go_enter Try.func48, Try.ntmps48
    go_wp2_with fail
    go_ret
    unfold RSendPost
    rw [HR.out]
    exact ⟨rfl, F, R0.out, Frame.refl _ _, fun _ h => .inl h⟩
  · have HR := hid (show tSend c b = (c, 1) by unfold tSend; rw [if_pos (.inl Hen.out)])
    rcases hs23 with rfl | rfl
    all_goals
      go_enter Try.func48, Try.ntmps48
      go_wp2_with fail
      go_ret
      unfold RSendPost
      rw [HR.out]
      exact ⟨rfl, F, R0.out, Frame.refl _ _, fun _ h => .inl h⟩
  have Hno := hid (show ¬ (c.out.ended = true ∨ (c.state ≠ 2 ∧ c.state ≠ 3)) by rw [Hen.out, Hst.out]; rintro (h | h); cases h; omega)
  by_cases hbig : len + n > 65536
  · have hbI : (len : Int) + (n : Int) > 65536 := by omega
    have HR := hid (show tSend c b = (c, 7) by unfold tSend; rw [if_neg Hno.out, if_pos (by rw [Hbl.out, Hlen.out]; omega)])
    rcases hs23 with rfl | rfl
    all_goals
      go_enter Try.func48, Try.ntmps48
      go_wp2_with fail
      go_ret
      unfold RSendPost
      rw [HR.out]
      exact ⟨rfl, F, R0.out, Frame.refl _ _, fun _ h => .inl h⟩
  · have hbI : ¬ (len : Int) + (n : Int) > 65536 := by omega
    have HR := hid (show tSend c b = ({ c with out := { c.out with bytes := c.out.bytes ++ b } }, 0) by unfold tSend; rw [if_neg Hno.out, if_neg (by rw [Hbl.out, Hlen.out]; omega)])
    have hal := below_alloc w (.cells #[] 5)
    have Hal := hid hal
    have a10b := cell_below hal a10
    have HS := hid (show Bs (w.alloc (.cells #[] 5)) (.slice SA len scap) c.out.bytes by have := (H1.out.keep hal).snt.rowN; unfold Bs; rw [Hlen.out] at this ⊢; exact this)
    have z10 := (H1.out.keep hal).tab.frozen 10
    clear hal hbig
    rcases hs23 with rfl | rfl
    all_goals
      go_enter Try.func48, Try.ntmps48
      go_wp2_with (first
        | ((with_reducible show wpList _ _ _ (Oper.mk (some 38) _ _ _ _ _ :: _) _ _); refine wpList_app8 _ rfl _ _ 28 rfl w.heap.size 5 u8ok (.slice (some ⟨w.heap.size, 0, none⟩) 0 0) [] rfl (ownBs_litNil rfl (Nat.le_refl _)) (.slice SA len scap) c.out.bytes rfl HS.out (by rw [Hlen.out]; simp; omega) Hal.out.size ?_; intro v2 w2 hown2 hb2 hg2 hat2; rw [List.nil_append] at hown2; obtain ⟨A2, cap2, rfl⟩ := slice_len hown2.bs Hlen.out; have Hb2 := hid (Hal.out.trans hb2); have O2 := hid hown2; clear hown2 hb2 hg2 hat2)
        | ((with_reducible show wpList _ _ _ (Oper.mk (some 40) _ _ _ _ _ :: _) _ _); refine wpList_app8 _ rfl _ _ 28 rfl w.heap.size 5 u8ok (.slice A2 len cap2) c.out.bytes rfl O2.out (.slice A n cap) b rfl (D0.out.below Hb2.out) (by rw [Hlen.out, Hbl.out]; omega) Hb2.out.size ?_; intro v3 w3 hown3 hb3 hg3 hat3; obtain ⟨A3, cap3, rfl⟩ := slice_len hown3.bs (show (c.out.bytes ++ b).length = len + n by rw [List.length_append, Hlen.out, Hbl.out]); have Hb3 := hid (Hb2.out.trans hb3); have O3 := hid hown3; have a10c := cell_below Hb3.out a10; have z10c := (H1.out.keep Hb3.out).tab.frozen 10; clear hown3 hb3 hg3 hat3)
        | fail)
      go_ret
      unfold RSendPost
      rw [HR.out]
      have hK := H1.out.keep Hb3.out
      have hro := RowAtS.of_own O3.out
      have hro : RowAtS w3 base 5 1 (.slice A3 (len + n) cap3) (c.out.bytes ++ b).length ((c.out.bytes ++ b).map u8v) := hro.mono H1.out.base_le
      have hnew := hK.swapSnt hro (fun k hk e => by have h3 := ((RowAtS.of_own O3.out).lt e).1; have h4 := (H1.out.inn.lt hk).2; omega)
      refine ⟨rfl, _, ⟨own, owe, gv, lt, vi, vo, .slice A3 (len + n) cap3, hnew, H2.out.early, H2.out.own, H2.out.owe, H2.out.gv, H2.out.len, H2.out.num⟩, (Below.frameF Hb3.out F).trans (hK.fset 10 _) (fun _ _ h => h), fun k hk => ?_⟩
      rcases hk with hk | hk
      · exact .inl hk
      · exact .inr ((RowAtS.of_own O3.out).lt hk).1
def RRecvPost (base g : Nat) (c : TConn) (q : Nat) (F : Nat → Prop) (w : World) (e : Ending) (w' : World) : Prop :=
  ∃ v', e = .returned v' ∧ Bs w' v' c.inn.ready ∧ RConn w' base g (tRecv c) q F ∧ Frame F w w'
set_option maxHeartbeats 4000000 in
theorem rrecv_conn (base g : Nat) (c : TConn) (q : Nat) (F : Nat → Prop) (w : World) (h : RConn w base g c q F) (hi : InOk c.inn) :
    Calls Try.prog 50 #[.pointer (some ⟨g, 0, none⟩)] w (RRecvPost base g c q F w) := by
  have R0 := hid h
  obtain ⟨own, owe, gv, lt, vi, vo, vs, h1, h2⟩ := h
  have H1 := hid h1
  have H2 := hid h2
  obtain ⟨n, hn⟩ : ∃ l, c.inn.ready.length = l := ⟨_, rfl⟩
  obtain ⟨A, cap, rfl⟩ : ∃ A c2, vi = .slice A n c2 := by rw [← hn]; obtain ⟨_, A, c2, rfl, _⟩ := h1.inn.rowN; exact ⟨A, c2, rfl⟩
  have hnl : n ≤ 16384 := by rw [← hn]; exact hi.len
  obtain ⟨st, hst⟩ : ∃ x, c.state = x := ⟨_, rfl⟩
  have a2 : w.cell? ⟨g, 2, none⟩ = some (.int .i64 st) := R0.out.c2 hst
  have a6 : w.cell? ⟨g, 6, none⟩ = some (.slice A n cap) := h1.tab.cell 6
  have a18 : w.cell? ⟨g, 18, none⟩ = some (.bool owe) := h1.tab.cell 18
  have z6 := h1.tab.frozen 6
  have z18 := h1.tab.frozen 18
  have HW := hid (rwindow_at g A n cap w hnl a6)
  have Hst := hid hst
  have Hn := hid hn
  have Hbs := hid (show Bs w (.slice A n cap) c.inn.ready from h1.inn.rowN)
  -- the slice that was handed out is not written
  have hnil : ∀ (wx : World) (cs : List Value) (F : Nat → Prop), RcAt wx base g cs (.slice A n cap) vo vs c.inn.ready lt c.out.bytes F → RcAt (wx.setCell ⟨g, 6, none⟩ (.slice none 0 0)) base g (cs.set 6 (.slice none 0 0)) (.slice none 0 0) vo vs [] lt c.out.bytes F ∧ Bs (wx.setCell ⟨g, 6, none⟩ (.slice none 0 0)) (.slice A n cap) c.inn.ready := fun wx cs F hx => by
    have hq := hx.set1 6 (.slice none 0 0)
    exact ⟨⟨hq.tab, RowAtS.nil _ _ _ _, hq.out, hq.snt, fun k hk => by simp [Value.ownBlock] at hk, hq.fg, fun k hk => by simp [Value.ownBlock] at hk, hq.fo, hq.fs, hq.flt⟩, hq.inn.rowN⟩
  have Hnil := hid hnil
  clear h1 h2 hi hst hn hnil
  have hcs : n > 14924 ∧ (st = 5 ∨ st ≠ 5 ∧ (st != 5) = true) ∨ ¬ n > 14924 := by
    by_cases z1 : n > 14924 <;> by_cases z2 : st = 5 <;> simp [z1, z2]
  rcases hcs with ⟨z1, rfl | ⟨z2, z3⟩⟩ | z1
  · have zI : (16384 - (n : Int)) < 1460 := by omega
    go_enter Try.func50, Try.ntmps50
    go_wp2_with (first | (go_at_call 67; refine HW.out.mono ?_; rintro e w' ⟨rfl, rfl⟩) | fail)
    go_ret
    obtain ⟨k1, k2⟩ := Hnil.out _ _ _ H1.out
    exact ⟨_, rfl, k2, ⟨own, owe, gv, lt, _, vo, vs, k1, H2.out.early, H2.out.own, fun e => absurd Hst.out e, H2.out.gv, H2.out.len, H2.out.num⟩, H1.out.fset 6 _⟩
  · have zI : (16384 - (n : Int)) < 1460 := by omega
    go_enter Try.func50, Try.ntmps50
    go_wp2_with (first | (go_at_call 67; refine HW.out.mono ?_; rintro e w' ⟨rfl, rfl⟩) | fail)
    go_ret
    have hq := H1.out.set1 18 (.bool true)
    obtain ⟨k1, k2⟩ := Hnil.out _ _ _ hq
    refine ⟨_, rfl, k2, ⟨own, true, gv, lt, _, vo, vs, k1, H2.out.early, H2.out.own, fun e => ?_, H2.out.gv, H2.out.len, H2.out.num⟩, (H1.out.fset 18 _).trans (hq.fset 6 _) (fun _ _ h => h)⟩
    show true = (c.acks || decide ((16384 - (c.inn.ready.length : Int)) < 1460))
    rw [Hn.out, decide_eq_true zI, Bool.or_true]
  · have zI : ¬ (16384 - (n : Int)) < 1460 := by omega
    go_enter Try.func50, Try.ntmps50
    go_wp2_with (first | (go_at_call 67; refine HW.out.mono ?_; rintro e w' ⟨rfl, rfl⟩) | fail)
    go_ret
    obtain ⟨k1, k2⟩ := Hnil.out _ _ _ H1.out
    refine ⟨_, rfl, k2, ⟨own, owe, gv, lt, _, vo, vs, k1, H2.out.early, H2.out.own, fun e => ?_, H2.out.gv, H2.out.len, H2.out.num⟩, H1.out.fset 6 _⟩
    show owe = (c.acks || decide ((16384 - (c.inn.ready.length : Int)) < 1460))
    rw [Hn.out, decide_eq_false (by omega), Bool.or_false]
    exact H2.out.owe e
end Go.Proofs.Ytahlcjkcdgahkaa
