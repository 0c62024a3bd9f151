/- Send, Tick, End, Take over a connection that is known well. -/
import Derived.Test.YtahlcjkcdgahkaaTcpR
import Derived.Test.YtahlcjkcdgahkaaTcpQ
namespace Go.Proofs.Ytahlcjkcdgahkaa
section
open Go Go.RowKit
attribute [local go_sem ↓] Go.wp_at_zero Go.wp_at_succ
set_option maxRecDepth 100000

/-- while the clock goes on -/
structure TickAt (base g m : Nat) (F : Nat → Prop) (w : World) (c : TConn) (wr : World) : Prop where
  inv : ConnInv wr base g c m F
  fr : Frame F w wr
section
variable {base g m : Nat} {F : Nat → Prop} {w : World} {c c' : TConn} {wr : World}
theorem TickAt.drewN (h : TickAt base g m F w c wr) (q : Nat) : TickAt base g m F w c (wr.drewN q) := ⟨h.inv.keep (below_drewN (Below.refl _ _) q), h.fr.trans (Below.frameF (below_drewN (Below.refl _ _) q) F) (fun _ _ h => h)⟩
theorem TickAt.set1 (h : TickAt base g m F w c wr) (i : Nat) (u : Value) (ht : ∀ vr gM vb, (c.cells vr (.map (some gM)) vb).set i u = c'.cells vr (.map (some gM)) vb) (h1 : c'.inn.ready = c.inn.ready) (h2 : c'.inn.early = c.inn.early) (h3 : c'.out.bytes = c.out.bytes) :
    TickAt base g m F w c' (wr.setCell ⟨g, i, none⟩ u) := by
  obtain ⟨vr, gM, vb, f, hi⟩ := h.inv
  have hg := grown_set wr g i u
  exact ⟨⟨vr, gM, vb, f, hi.stored hg (by rw [← ht]; exact hi.tab.set_ i u) h1 h2 h3⟩, h.fr.trans (Frame.one hg hi.fg) (fun _ _ h => h)⟩
end
def TickPost (base g : Nat) (c : TConn) (m : Nat) (F : Nat → Prop) (w : World) (e : Ending) (w' : World) : Prop := (∃ u, e = .returned u) ∧ ConnInv w' base g c m F ∧ Frame F w w'
set_option maxHeartbeats 4000000 in
theorem tick_any (base g : Nat) (c : TConn) (m : Nat) (F : Nat → Prop) (n : Int) (w : World) (h : ConnInv w base g c m F) (ho : OutOk c) :
    Calls Try.prog 23 #[.pointer (some ⟨g, 0, none⟩), .int .i64 n] w (TickPost base g (tTick c n) m F w) := by
  have HT := hid (show TickAt base g m F w c w from ⟨h, Frame.refl _ _⟩)
  obtain ⟨vr, gM, vb, f, h⟩ := h
  obtain ⟨nb, hn⟩ : ∃ n, c.out.bytes.length = n := ⟨_, rfl⟩
  obtain ⟨A, cap, rfl⟩ : ∃ A c2, vb = .slice A nb c2 := by rw [← hn]; obtain ⟨_, A, c2, rfl, _⟩ := h.bytes.rowN; exact ⟨A, c2, rfl⟩
  obtain ⟨st, hst⟩ : ∃ x, c.state = x := ⟨_, rfl⟩
  obtain ⟨lf, hlf⟩ : ∃ x, c.out.left = x := ⟨_, rfl⟩
  have c18 : w.cell? ⟨g, 18, none⟩ = some (.int .i64 st) := by rw [← hst]; exact h.tab.cell 18
  have c6 : w.cell? ⟨g, 6, none⟩ = some (.int .u32 (c.out.u : Int)) := h.tab.cell 6
  have c7 : w.cell? ⟨g, 7, none⟩ = some (.int .u32 (c.out.n : Int)) := h.tab.cell 7
  have c8 : w.cell? ⟨g, 8, none⟩ = some (.int .u32 (c.out.base : Int)) := h.tab.cell 8
  have c9 : w.cell? ⟨g, 9, none⟩ = some (.slice A nb cap) := h.tab.cell 9
  have c10 : w.cell? ⟨g, 10, none⟩ = some (.int .i64 c.out.w) := h.tab.cell 10
  have c12 : w.cell? ⟨g, 12, none⟩ = some (.int .i64 c.out.clock) := h.tab.cell 12
  have c15 : w.cell? ⟨g, 15, none⟩ = some (.bool c.out.fin) := h.tab.cell 15
  have z12 := h.tab.frozen 12
  have hl0 := fun wx a1 a2 a3 a4 => left_at g c.out A nb cap wx ho.n ho.base hn (by have := ho.len; omega) a1 a2 a3 a4
  rw [hlf] at hl0
  have HL := hid hl0
  obtain ⟨tr, htr⟩ : ∃ b : Bool, ((st == 5) || (decide (c.out.u = c.out.n) && ((lf == 0) || (c.out.w != 0)))) = b := ⟨_, rfl⟩
  have Htr := hid htr
  have Hst := hid hst
  have Hlf := hid hlf
  have Ho := hid ho
  clear hl0 htr hst hlf ho hn h
  go_enter Try.func23, Try.ntmps23
  go_upto_region 0 with fail
  go_cut [36] from 4 to 37 (fun s wx => s = .bool tr ∧ ∃ q, wx = w.drewN q)
  case first =>
    have htr := Htr.out
    by_cases h5 : st = 5
    · have e : tr = true := by rw [← htr, h5]; rfl
      subst e
      subst h5
      clear htr
      go_quiet (fail)
      go_wp2_with fail
      go_meet
      case rel => exact ⟨rfl, _, rfl⟩
    · have h5b : (st == 5) = false := by simpa using h5
      rw [h5b, Bool.false_or] at htr
      by_cases hun : c.out.u = c.out.n
      · rw [decide_eq_true hun, Bool.true_and] at htr
        have hbu : ((c.out.u : Int) == (c.out.n : Int)) = true := by rw [hun]; simp
        clear hun
        by_cases hl0 : lf = 0
        · have e : tr = true := by rw [← htr, hl0]; rfl
          subst e
          subst hl0
          clear htr h5
          go_quiet ((go_at_call 44; exact Calls.quiet_of (HL.out _ c7 c8 c9 c15)))
          go_wp2_with fail
          go_meet
          case rel => exact ⟨rfl, _, rfl⟩
        · have hb : (lf == 0) = false := by simpa using hl0
          rw [hb, Bool.false_or] at htr
          have Htr2 := hid htr
          clear htr h5 hl0
          go_quiet ((go_at_call 44; exact Calls.quiet_of (HL.out _ c7 c8 c9 c15)))
          go_wp2_with fail
          go_meet
          case rel => exact ⟨congrArg Value.bool Htr2.out, _, rfl⟩
      · have e : tr = false := by rw [← htr]; simp [hun]
        have hb : ((c.out.u : Int) == (c.out.n : Int)) = false := by simp; omega
        subst e
        clear htr h5
        go_quiet (fail)
        go_wp2_with fail
        go_meet
        case rel => exact ⟨rfl, _, rfl⟩
  case rest =>
  obtain ⟨rfl, q0, hwq⟩ := hcut
  subst hwq
  have HTd := hid (HT.out.drewN q0)
  have c12 : (w.drewN q0).cell? ⟨g, 12, none⟩ = some (.int .i64 c.out.clock) := c12
  have z12 : (w.drewN q0).frozen? ⟨g, 12, none⟩ = false := z12
  clear HT HL c18 c6 c7 c8 c9 c10 c15
  generalize w.drewN q0 = w1 at *
  go_step
  cases tr with
  | true =>
    have Hr := hid (show tTick c n = { c with out := { c.out with clock := 0 } } by
      have htr := Htr.out
      unfold tTick
      rw [if_pos]
      rw [Hst.out, Hlf.out]
      simp only [Bool.or_eq_true, Bool.and_eq_true, beq_iff_eq, decide_eq_true_eq, bne_iff_ne] at htr
      exact htr)
    go_wp2_with fail
    go_end0
    rw [Hr.out]
    have := HTd.out.set1 12 (.int .i64 0) (c' := { c with out := { c.out with clock := 0 } }) (fun _ _ _ => rfl) rfl rfl rfl
    exact ⟨⟨_, rfl⟩, this.inv, this.fr⟩
  | false =>
    have Hno := hid (show ¬ (c.state = 5 ∨ (c.out.u = c.out.n ∧ (c.out.left = 0 ∨ c.out.w ≠ 0))) by
      have htr := Htr.out
      rw [Hst.out, Hlf.out]
      intro h
      have : ((st == 5) || (decide (c.out.u = c.out.n) && ((lf == 0) || (c.out.w != 0)))) = true := by
        simp only [Bool.or_eq_true, Bool.and_eq_true, beq_iff_eq, decide_eq_true_eq, bne_iff_ne]
        exact h
      rw [this] at htr
      cases htr)
    obtain ⟨dl, hdl⟩ : ∃ x, min (max n 0) 1073741824 = x := ⟨_, rfl⟩
    have hdl1 : 0 ≤ dl ∧ dl ≤ 1073741824 := by omega
    have hck := Ho.out.clock0
    have hck2 := Ho.out.clock1
    have Hdl := hid hdl
    obtain ⟨t, ht⟩ : ∃ x, c.out.tries = x := ⟨_, rfl⟩
    have Ht := hid ht
    have ht05 : 0 ≤ t ∧ t ≤ 5 := by rw [← ht]; exact ⟨Ho.out.tries0, Ho.out.tries5 (fun e => Hno.out (.inl e))⟩
    have hif : (if 1073741824 < (if n < 0 then 0 else n) then 1073741824 else (if n < 0 then 0 else n)) = dl := by rw [← hdl]; split <;> split at * <;> omega
    have Hif := hid hif
    clear hdl hif ht
    go_upto_region 3 with fail
    rw [Hif.out]
    generalize (if n < 0 then (0 : Int) else n) = n0
    have HT2 := hid (HTd.out.set1 12 (.int .i64 (c.out.clock + dl)) (c' := { c with out := { c.out with clock := c.out.clock + dl } }) (fun _ _ _ => rfl) rfl rfl rfl)
    clear HTd c12 z12 Hif
    generalize w1.setCell ⟨g, 12, none⟩ (.int .i64 (c.out.clock + dl)) = w2 at *
    obtain ⟨ck, hck3⟩ : ∃ x, c.out.clock + dl = x := ⟨_, rfl⟩
    rw [hck3] at HT2
    have Hck := hid hck3
    have hck4 : 0 ≤ ck ∧ ck ≤ 1100000000 := by omega
    obtain ⟨vr2, gM2, vb2, f2, hj⟩ := HT2.out.inv
    have c12 : w2.cell? ⟨g, 12, none⟩ = some (.int .i64 ck) := hj.tab.cell 12
    have c13 : w2.cell? ⟨g, 13, none⟩ = some (.int .i64 t) := by rw [← Ht.out]; exact hj.tab.cell 13
    obtain ⟨tl, htl⟩ : ∃ b : Bool, decide (ck < 200 * 2 ^ t.toNat) = b := ⟨_, rfl⟩
    have Htl := hid htl
    clear hj hck3 hck hck2 hdl1 htl
    go_cut [64] from 53 to 65 (fun s wx => s = .bool tl ∧ ∃ q, wx = w2.drewN q)
    case first =>
      have h6 : t = 0 ∨ t = 1 ∨ t = 2 ∨ t = 3 ∨ t = 4 ∨ t = 5 := by omega
      have hw := fun (k : Nat) (hk : k ≤ 5) (L : Int) (hL : (200 : Int) * 2 ^ k = L) (e : t = (k : Int)) => (show decide (ck < L) = tl by rw [← Htl.out, e, Int.toNat_natCast, hL])
      rcases h6 with rfl | rfl | rfl | rfl | rfl | rfl
      all_goals
        have Hw := hid hw
        clear hw ht05
        go_quiet (fail)
        go_wp2_with fail
        go_meet
        case rel => first | exact ⟨congrArg Value.bool (Hw.out 0 (by decide) 200 rfl rfl), _, rfl⟩ | exact ⟨congrArg Value.bool (Hw.out 1 (by decide) 400 rfl rfl), _, rfl⟩ | exact ⟨congrArg Value.bool (Hw.out 2 (by decide) 800 rfl rfl), _, rfl⟩ | exact ⟨congrArg Value.bool (Hw.out 3 (by decide) 1600 rfl rfl), _, rfl⟩ | exact ⟨congrArg Value.bool (Hw.out 4 (by decide) 3200 rfl rfl), _, rfl⟩ | exact ⟨congrArg Value.bool (Hw.out 5 (by decide) 6400 rfl rfl), _, rfl⟩
    case rest =>
    obtain ⟨h64, q2, hwq⟩ := hcut
    subst u64
    subst hwq
    have HT3 := hid (HT2.out.drewN q2)
    clear HT2 c12 c13
    generalize w2.drewN q2 = w3 at *
    obtain ⟨vr3, gM3, vb3, f3, hj⟩ := HT3.out.inv
    have c12 : w3.cell? ⟨g, 12, none⟩ = some (.int .i64 ck) := hj.tab.cell 12
    have c13 : w3.cell? ⟨g, 13, none⟩ = some (.int .i64 t) := by rw [← Ht.out]; exact hj.tab.cell 13
    have c18 : w3.cell? ⟨g, 18, none⟩ = some (.int .i64 st) := by rw [← Hst.out]; exact hj.tab.cell 18
    have c19 : w3.cell? ⟨g, 19, none⟩ = some (.bool c.begin_) := hj.tab.cell 19
    have c21 : w3.cell? ⟨g, 21, none⟩ = some (.bool c.again) := hj.tab.cell 21
    have c22 : w3.cell? ⟨g, 22, none⟩ = some (.bool c.gave) := hj.tab.cell 22
    have z12 := hj.tab.frozen 12
    have z13 := hj.tab.frozen 13
    have z18 := hj.tab.frozen 18
    have z19 := hj.tab.frozen 19
    have z21 := hj.tab.frozen 21
    have z22 := hj.tab.frozen 22
    clear hj
    go_step
    cases tl with
    | true =>
      have Hr := hid (show tTick c n = { c with out := { c.out with clock := ck } } by
        have h := Htl.out
        simp only [decide_eq_true_eq] at h
        unfold tTick
        rw [if_neg Hno.out, Hdl.out, Hck.out, Ht.out, if_pos h])
      go_wp2_with fail
      go_end0
      rw [Hr.out]
      exact ⟨⟨_, rfl⟩, HT3.out.inv, HT3.out.fr⟩
    | false =>
      obtain ⟨t1, ht1⟩ : ∃ x, t + 1 = x := ⟨_, rfl⟩
      have Ht1 := hid ht1
      have Hnl := hid (show ¬ ck < 200 * 2 ^ t.toNat by have h := Htl.out; simp only [decide_eq_false_iff_not] at h; exact h)
      have HT4 := hid ((HT3.out.set1 13 (.int .i64 t1) (c' := { c with out := { c.out with clock := ck, tries := t1 } }) (fun _ _ _ => rfl) rfl rfl rfl).set1 12 (.int .i64 0) (c' := { c with out := { c.out with clock := 0, tries := t1 } }) (fun _ _ _ => rfl) rfl rfl rfl)
      by_cases h6 : t1 = 6
      · have Hr := hid (show tTick c n = { c with out := { c.out with clock := 0, tries := t1 }, state := 5, gave := true } by
          unfold tTick
          rw [if_neg Hno.out, Hdl.out, Hck.out, Ht.out, if_neg Hnl.out, Ht1.out, if_pos h6])
        subst h6
        go_wp2_with fail
        go_end0
        rw [Hr.out]
        have := (HT4.out.set1 18 (.int .i64 5) (c' := { c with out := { c.out with clock := 0, tries := 6 }, state := 5 }) (fun _ _ _ => rfl) rfl rfl rfl).set1 22 (.bool true) (c' := { c with out := { c.out with clock := 0, tries := 6 }, state := 5, gave := true }) (fun _ _ _ => rfl) rfl rfl rfl
        exact ⟨⟨_, rfl⟩, this.inv, this.fr⟩
      · have h6b : (t1 == 6) = false := by simpa using h6
        by_cases hs1 : st = 1
        · have Hr := hid (show tTick c n = { c with out := { c.out with clock := 0, tries := t1 }, begin_ := true } by
            unfold tTick
            rw [if_neg Hno.out, Hdl.out, Hck.out, Ht.out, if_neg Hnl.out, Ht1.out, if_neg h6, Hst.out, if_pos hs1])
          subst hs1
          clear h6
          go_wp2_with fail
          go_end0
          rw [Hr.out]
          have := HT4.out.set1 19 (.bool true) (c' := { c with out := { c.out with clock := 0, tries := t1 }, begin_ := true }) (fun _ _ _ => rfl) rfl rfl rfl
          exact ⟨⟨_, rfl⟩, this.inv, this.fr⟩
        · have hs1b : (st == 1) = false := by simpa using hs1
          have Hr := hid (show tTick c n = { c with out := { c.out with clock := 0, tries := t1 }, again := true } by
            unfold tTick
            rw [if_neg Hno.out, Hdl.out, Hck.out, Ht.out, if_neg Hnl.out, Ht1.out, if_neg h6, Hst.out, if_neg hs1])
          clear h6 hs1
          go_wp2_with fail
          go_end0
          rw [Hr.out]
          have := HT4.out.set1 21 (.bool true) (c' := { c with out := { c.out with clock := 0, tries := t1 }, again := true }) (fun _ _ _ => rfl) rfl rfl rfl
          exact ⟨⟨_, rfl⟩, this.inv, this.fr⟩
end
section
open Go Go.RowKit

/-- Send -/
theorem send_conn {w0 w : World} {g : Nat} {c : TConn} {m : Nat} {F : Nat → Prop} (h : Conn w0 w g c m F) (v : Value) (b : List UInt8) (hb : Bs w v b) :
    Calls Try.prog 21 #[.pointer (some ⟨g, 0, none⟩), v] w fun e w' => e = .returned (.int .i64 (tSend c b).2) ∧ ∃ F', Conn w0 w' g (tSend c b).1 m F' ∧ Frame F w w' ∧ ∀ k, F' k → F k ∨ w.heap.size ≤ k := by
  refine (send_any w0.heap.size g c m F v b w h.inv h.o hb).mono ?_
  rintro e w' ⟨he, F', hi, hfr, hnew⟩
  have := tSend_ok h.o b
  exact ⟨he, F', h.frameB hi hfr (by rw [this.2]; exact h.i) this.1, hfr, hnew⟩
theorem tick_conn {w0 w : World} {g : Nat} {c : TConn} {m : Nat} {F : Nat → Prop} (h : Conn w0 w g c m F) (n : Int) :
    Calls Try.prog 23 #[.pointer (some ⟨g, 0, none⟩), .int .i64 n] w fun e w' => (∃ u, e = .returned u) ∧ Conn w0 w' g (tTick c n) m F ∧ Frame F w w' := by
  refine (tick_any w0.heap.size g c m F n w h.inv h.o).mono ?_
  rintro e w' ⟨hu, hi, hfr⟩
  have := tTick_ok h.o n
  exact ⟨hu, h.frameB hi hfr (by rw [this.2.1]; exact h.i) this.1, hfr⟩
theorem end_conn {w0 w : World} {g : Nat} {c : TConn} {m : Nat} {F : Nat → Prop} (h : Conn w0 w g c m F) :
    Calls Try.prog 29 #[.pointer (some ⟨g, 0, none⟩)] w fun e w' => (∃ u, e = .returned u) ∧ Conn w0 w' g (tEnd c) m F ∧ Frame F w w' := by
  refine (end_any w0.heap.size g c m F w h.inv).mono ?_
  rintro e w' ⟨hu, hi, hfr, _⟩
  exact ⟨hu, h.frameB hi hfr h.i (tEnd_ok h.o), hfr⟩
/-- Take, the segment's fields by themselves -/
theorem take_at {w0 w : World} {g : Nat} {c : TConn} {m : Nat} {F : Nat → Prop} (h : Conn w0 w g c m F) (s0 d0 : Int) (sq ak : Nat) (fl wi ms : Int) (data : List UInt8) (A : Option Addr) (n cap : Nat) (hs : sq < 4294967296) (ha : ak < 4294967296) (hw0 : 0 ≤ wi) (hw1 : wi ≤ 65535) (hd : Bs w (.slice A n cap) data) (hl : data.length = n) (hn : n ≤ 100000) (hm : m ≤ 1000000000) (hf : n = 0 ∨ ∀ k, (Value.slice A n cap).ownBlock = some k → ¬ F k) (c' : TConn) (hc : tTake c ⟨s0, d0, sq, ak, fl, wi, ms, data⟩ = c') :
    Calls Try.prog 16 #[.pointer (some ⟨g, 0, none⟩), .agg #[.int .i64 s0, .int .i64 d0, .int .u32 (sq : Int), .int .u32 (ak : Int), .int .i64 fl, .int .i64 wi, .int .i64 ms, .slice A n cap]] w fun e w' => (∃ u, e = .returned u) ∧ ∃ F', Conn w0 w' g c' (m + n) F' ∧ Frame F w w' ∧ ∀ k, F' k → F k ∨ w.heap.size ≤ k := by
  subst hc
  subst hl
  exact take_conn h ⟨s0, d0, sq, ak, fl, wi, ms, data⟩ A _ cap hs ha ⟨hw0, hw1⟩ hd hn hm hf
end
end Go.Proofs.Ytahlcjkcdgahkaa
