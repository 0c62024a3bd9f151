/- Take: what is not taken. -/
import Derived.Test.YtahlcjkcdgahkaaTcpH
import Derived.Test.YtahlcjkcdgahkaaTcpI
namespace Go.Proofs.Ytahlcjkcdgahkaa
open Go Go.RowKit
attribute [local go_sem ↓] Go.wp_at_zero Go.wp_at_succ
set_option maxRecDepth 100000

def TakePost (base g : Nat) (c : TConn) (m : Nat) (F : Nat → Prop) (w : World) (e : Ending) (w' : World) : Prop := (∃ u, e = .returned u) ∧ ConnTo base g c m F w w'
theorem RowN.frame {F : Nat → Prop} {w w' : World} {size n : Nat} {v : Value} {xs : List Value} (h : RowN w size v n xs) (hf : Frame F w w') (hn : n = 0 ∨ ∀ k, v.ownBlock = some k → ¬ F k) : RowN w' size v n xs := by
  obtain ⟨hl, A, cap, rfl, h1, h2, h3⟩ := h
  refine ⟨hl, A, cap, rfl, h1, h2, ?_⟩
  rcases hn with hn | hn
  · exact .inl hn
  rcases h3 with h3 | ⟨b, off, rfl, hc⟩
  · exact .inl h3
  · refine .inr ⟨b, off, rfl, fun i x hx => ?_⟩
    have h4 := hc i x hx
    have e := hf.block b (World.block_lt_of_cell? w _ h4) (hn b rfl)
    simpa [World.cell?, e] using h4
/-- while a segment is taken: the connection, the segment's box, its bytes -/
structure TakeAt (base g m : Nat) (F : Nat → Prop) (w0 : World) (box : List Value) (v : Value) (data : List UInt8) (c : TConn) (wr : World) : Prop where
  inv : ConnInv wr base g c m F
  box : Blk wr w0.heap.size 30 box
  bs : Bs wr v data
  fr : Frame F w0 wr
  far : data.length = 0 ∨ ∀ k, v.ownBlock = some k → ¬ F k
  flt : ∀ k, F k → k < w0.heap.size
section
variable {base g m m' : Nat} {F : Nat → Prop} {w0 : World} {box : List Value} {v : Value} {data : List UInt8} {c c' : TConn} {wr w' : World}
theorem TakeAt.keep (h : TakeAt base g m F w0 box v data c wr) (hb : Below wr.heap.size wr w') : TakeAt base g m F w0 box v data c w' :=
  ⟨h.inv.keep hb, h.box.keep hb, h.bs.below hb, h.fr.trans (Below.frameF hb F) (fun _ _ h => h), h.far, h.flt⟩
theorem TakeAt.drewN (h : TakeAt base g m F w0 box v data c wr) (q : Nat) : TakeAt base g m F w0 box v data c (wr.drewN q) := h.keep (below_drewN (Below.refl _ _) q)
theorem TakeAt.step (h : TakeAt base g m F w0 box v data c wr) (hi : ConnInv w' base g c' m' F) (hf : Frame F wr w') : TakeAt base g m' F w0 box v data c' w' :=
  ⟨hi, hf.blk h.box (fun q => Nat.lt_irrefl _ (h.flt _ q)), RowN.frame h.bs hf h.far, h.fr.trans hf (fun _ _ h => h), h.far, h.flt⟩
theorem TakeAt.post (h : TakeAt base g m F w0 box v data c wr) (hm : m ≤ m') (u : Value) : TakePost base g c m' F w0 (.returned u) wr :=
  ⟨⟨u, rfl⟩, F, h.inv.mono (Nat.le_refl _) hm, h.fr, fun _ h => .inl h⟩
/-- one cell is stored -/
theorem TakeAt.set1 (h : TakeAt base g m F w0 box v data c wr) (i : Nat) (u : Value) (ht : ∀ vr gM vb, (c.cells vr (.map (some gM)) vb).set i u = c'.cells vr (.map (some gM)) vb) (h1 : c'.inn.ready = c.inn.ready) (h2 : c'.inn.early = c.inn.early) (h3 : c'.out.bytes = c.out.bytes) :
    TakeAt base g m F w0 box v data c' (wr.setCell ⟨g, i, none⟩ u) := by
  obtain ⟨vr, gM, vb, f, hi⟩ := h.inv
  have hg := grown_set wr g i u
  refine h.step ⟨vr, gM, vb, f, hi.stored hg (by rw [← ht]; exact hi.tab.set_ i u) h1 h2 h3⟩ (Frame.one hg hi.fg)
end
/-- what a segment's taking begins with -/
theorem TakeAt.new {base g m : Nat} {F : Nat → Prop} {w : World} {c : TConn} (h : ConnInv w base g c m F) (s : TSeg) (v : Value) (hd : Bs w v s.data) (hf : s.data.length = 0 ∨ ∀ k, v.ownBlock = some k → ¬ F k) : TakeAt base g m F w (s.cells v) v s.data c (w.alloc (.cells (s.cells v).toArray 30)) :=
  ⟨h.keep (below_alloc _ _), Blk.new _ _ _, hd.alloc _, Below.frameF (below_alloc w _) F, hf, fun k hk => (h.lt k hk).2⟩
theorem neq_of {x : Int} (b : Bool) (h : (x != 0) = b) : (x == 0) = !b := by subst h; simp [bne]
/-- what is not taken -/
def tEarly (c : TConn) (s : TSeg) : Prop := c.state = 5 ∨ tBit s.flags 4 = true ∨ tBit s.flags 2 = true ∨ tBit s.flags 16 = false ∨ tLess c.out.n s.ack = true ∨ (c.state = 1 ∧ s.ack ≠ c.out.n)
set_option maxHeartbeats 4000000 in
theorem take_early (base g : Nat) (c : TConn) (m : Nat) (F : Nat → Prop) (s : TSeg) (A : Option Addr) (n cap : Nat) (w : World) (h : ConnInv w base g c m F) (hs : s.seq < 4294967296) (ha : s.ack < 4294967296) (hcn : c.out.n < 4294967296) (hd : Bs w (.slice A n cap) s.data) (hf : n = 0 ∨ ∀ k, (Value.slice A n cap).ownBlock = some k → ¬ F k) (he : tEarly c s) :
    Calls Try.prog 16 #[.pointer (some ⟨g, 0, none⟩), s.val (.slice A n cap)] w (TakePost base g (tTake c s) (m + s.data.length) F w) := by
  have T0 := TakeAt.new h s (.slice A n cap) hd (by rw [hd.open.1]; exact hf)
  obtain ⟨st, hst⟩ : ∃ st, c.state = st := ⟨_, rfl⟩
  obtain ⟨s0, d0, sq, ak, fl, wi, ms, data⟩ := s
  dsimp only [TSeg.val, TSeg.cells] at T0 ⊢
  simp only at hs ha
  have HT := hid T0
  obtain ⟨vr, gM, vb, f, hi⟩ := T0.inv
  have c18 : (w.alloc (.cells #[.int .i64 s0, .int .i64 d0, .int .u32 (sq : Int), .int .u32 (ak : Int), .int .i64 fl, .int .i64 wi, .int .i64 ms, .slice A n cap] 30)).cell? ⟨g, 18, none⟩ = some (.int .i64 st) := by rw [← hst]; exact hi.tab.cell 18
  have c23 : (w.alloc (.cells #[.int .i64 s0, .int .i64 d0, .int .u32 (sq : Int), .int .u32 (ak : Int), .int .i64 fl, .int .i64 wi, .int .i64 ms, .slice A n cap] 30)).cell? ⟨g, 23, none⟩ = some (.bool c.off) := hi.tab.cell 23
  have c0 : (w.alloc (.cells #[.int .i64 s0, .int .i64 d0, .int .u32 (sq : Int), .int .u32 (ak : Int), .int .i64 fl, .int .i64 wi, .int .i64 ms, .slice A n cap] 30)).cell? ⟨g, 0, none⟩ = some (.int .u32 (c.inn.r : Int)) := hi.tab.cell 0
  have c19 : (w.alloc (.cells #[.int .i64 s0, .int .i64 d0, .int .u32 (sq : Int), .int .u32 (ak : Int), .int .i64 fl, .int .i64 wi, .int .i64 ms, .slice A n cap] 30)).cell? ⟨g, 19, none⟩ = some (.bool c.begin_) := hi.tab.cell 19
  have c20 : (w.alloc (.cells #[.int .i64 s0, .int .i64 d0, .int .u32 (sq : Int), .int .u32 (ak : Int), .int .i64 fl, .int .i64 wi, .int .i64 ms, .slice A n cap] 30)).cell? ⟨g, 20, none⟩ = some (.bool c.acks) := hi.tab.cell 20
  have c7 : (w.alloc (.cells #[.int .i64 s0, .int .i64 d0, .int .u32 (sq : Int), .int .u32 (ak : Int), .int .i64 fl, .int .i64 wi, .int .i64 ms, .slice A n cap] 30)).cell? ⟨g, 7, none⟩ = some (.int .u32 (c.out.n : Int)) := hi.tab.cell 7
  have b4 : (w.alloc (.cells #[.int .i64 s0, .int .i64 d0, .int .u32 (sq : Int), .int .u32 (ak : Int), .int .i64 fl, .int .i64 wi, .int .i64 ms, .slice A n cap] 30)).cell? ⟨w.heap.size, 4, none⟩ = some (.int .i64 fl) := T0.box.cell 4
  have b2 : (w.alloc (.cells #[.int .i64 s0, .int .i64 d0, .int .u32 (sq : Int), .int .u32 (ak : Int), .int .i64 fl, .int .i64 wi, .int .i64 ms, .slice A n cap] 30)).cell? ⟨w.heap.size, 2, none⟩ = some (.int .u32 (sq : Int)) := T0.box.cell 2
  have b3 : (w.alloc (.cells #[.int .i64 s0, .int .i64 d0, .int .u32 (sq : Int), .int .u32 (ak : Int), .int .i64 fl, .int .i64 wi, .int .i64 ms, .slice A n cap] 30)).cell? ⟨w.heap.size, 3, none⟩ = some (.int .u32 (ak : Int)) := T0.box.cell 3
  have z18 := hi.tab.frozen 18
  have z23 := hi.tab.frozen 23
  have z19 := hi.tab.frozen 19
  have z20 := hi.tab.frozen 20
  have Hst := hid hst
  have He := hid he
  clear h hd hi T0 hst he
  by_cases h5 : st = 5
  · have Hr := hid (show tTake c ⟨s0, d0, sq, ak, fl, wi, ms, data⟩ = c by unfold tTake; rw [if_pos (by rw [Hst.out]; exact h5)])
    subst h5
    go_enter Try.func16, Try.ntmps16
    go_wp2_with fail
    go_end0
    rw [Hr.out]
    exact HT.out.post (by simp) _
  have h5b : (st == 5) = false := by simpa using h5
  have H5 := hid (show ¬ c.state = 5 by rw [Hst.out]; exact h5)
  clear h5
  obtain ⟨f4, hf4⟩ : ∃ b, (bits .and .i64 fl 4 != 0) = b := ⟨_, rfl⟩
  have Hf4 := hid hf4
  cases f4 with
  | true =>
    have H4 := hid (show tBit fl 4 = true from Hf4.out)
    by_cases hr : sq = c.inn.r
    · have Hr := hid (show tTake c ⟨s0, d0, sq, ak, fl, wi, ms, data⟩ = { c with state := 5, off := true } by unfold tTake; rw [if_neg H5.out, if_pos H4.out, if_pos hr])
      rw [← hr] at c0
      clear hr
      go_enter Try.func16, Try.ntmps16
      go_wp2_with fail
      go_quiet (fail)
      go_wp2_with fail
      go_end0
      rw [Hr.out]
      exact (((HT.out.drewN nq).set1 18 (.int .i64 5) (c' := { c with state := 5 }) (fun _ _ _ => rfl) rfl rfl rfl).set1 23 (.bool true) (c' := { c with state := 5, off := true }) (fun _ _ _ => rfl) rfl rfl rfl).post (by simp) _
    · have Hr := hid (show tTake c ⟨s0, d0, sq, ak, fl, wi, ms, data⟩ = c by unfold tTake; rw [if_neg H5.out, if_pos H4.out, if_neg hr])
      have hrb : ((sq : Int) == (c.inn.r : Int)) = false := by simp; omega
      go_enter Try.func16, Try.ntmps16
      go_wp2_with fail
      go_quiet (fail)
      go_wp2_with fail
      go_end0
      rw [Hr.out]
      exact (HT.out.drewN nq).post (by simp) _
  | false =>
  have H4 := hid (show ¬ tBit fl 4 = true from fun h => by have := Hf4.out; unfold tBit at h; rw [h] at this; cases this)
  obtain ⟨f2, hf2⟩ : ∃ b, (bits .and .i64 fl 2 != 0) = b := ⟨_, rfl⟩
  have Hf2 := hid hf2
  obtain ⟨f16, hf16⟩ : ∃ b, (bits .and .i64 fl 16 != 0) = b := ⟨_, rfl⟩
  have Hf16 := hid hf16
  have hf16n := neq_of _ hf16
  clear hf16
  obtain ⟨sq1, hsq1⟩ : ∃ x, (sq + 1) % 4294967296 = x := ⟨_, rfl⟩
  have hsqI : ((sq : Int) + 1) % 4294967296 = (sq1 : Int) := by omega
  have Hsq1 := hid hsq1
  clear hsq1
  cases f2 with
  | true =>
    have H2 := hid (show tBit fl 2 = true from Hf2.out)
    by_cases h1 : st = 1
    case neg =>
      have Hr := hid (show tTake c ⟨s0, d0, sq, ak, fl, wi, ms, data⟩ = { c with acks := true } by unfold tTake; rw [if_neg H5.out, if_neg H4.out, if_pos H2.out, if_neg (fun h => h1 (by rw [← Hst.out]; exact h.1))])
      have h1b : (st == 1) = false := by simpa using h1
      go_enter Try.func16, Try.ntmps16
      go_wp2_with fail
      go_quiet (fail)
      go_wp2_with fail
      go_end0
      rw [Hr.out]
      exact ((HT.out.drewN nq).set1 20 (.bool true) (c' := { c with acks := true }) (fun _ _ _ => rfl) rfl rfl rfl).post (by simp) _
    subst h1
    cases f16 with
    | true =>
      have Hr := hid (show tTake c ⟨s0, d0, sq, ak, fl, wi, ms, data⟩ = { c with acks := true } by unfold tTake; rw [if_neg H5.out, if_neg H4.out, if_pos H2.out, if_neg (fun h => by have h2 := h.2.1; unfold tBit at h2; rw [Hf16.out] at h2; cases h2)])
      go_enter Try.func16, Try.ntmps16
      go_wp2_with fail
      go_quiet (fail)
      go_wp2_with fail
      go_end0
      rw [Hr.out]
      exact ((HT.out.drewN nq).set1 20 (.bool true) (c' := { c with acks := true }) (fun _ _ _ => rfl) rfl rfl rfl).post (by simp) _
    | false =>
      by_cases hr : sq1 = c.inn.r
      · have Hr := hid (show tTake c ⟨s0, d0, sq, ak, fl, wi, ms, data⟩ = { c with begin_ := true } by unfold tTake; rw [if_neg H5.out, if_neg H4.out, if_pos H2.out, if_pos ⟨Hst.out, Hf16.out, by rw [Hsq1.out]; exact hr⟩])
        rw [← hr] at c0
        clear hr
        go_enter Try.func16, Try.ntmps16
        go_wp2_with fail
        go_quiet (fail)
        go_wp2_with fail
        go_end0
        rw [Hr.out]
        exact ((HT.out.drewN nq).set1 19 (.bool true) (c' := { c with begin_ := true }) (fun _ _ _ => rfl) rfl rfl rfl).post (by simp) _
      · have Hr := hid (show tTake c ⟨s0, d0, sq, ak, fl, wi, ms, data⟩ = { c with acks := true } by unfold tTake; rw [if_neg H5.out, if_neg H4.out, if_pos H2.out, if_neg (fun h => hr (by rw [← Hsq1.out]; exact h.2.2))])
        have hrb : ((sq1 : Int) == (c.inn.r : Int)) = false := by simp; omega
        go_enter Try.func16, Try.ntmps16
        go_wp2_with fail
        go_quiet (fail)
        go_wp2_with fail
        go_end0
        rw [Hr.out]
        exact ((HT.out.drewN nq).set1 20 (.bool true) (c' := { c with acks := true }) (fun _ _ _ => rfl) rfl rfl rfl).post (by simp) _
  | false =>
  have H2 := hid (show ¬ tBit fl 2 = true from fun h => by have := Hf2.out; unfold tBit at h; rw [h] at this; cases this)
  cases f16 with
  | false =>
    have Hr := hid (show tTake c ⟨s0, d0, sq, ak, fl, wi, ms, data⟩ = c by unfold tTake; rw [if_neg H5.out, if_neg H4.out, if_neg H2.out, if_pos (show tBit fl 16 = false from Hf16.out)])
    go_enter Try.func16, Try.ntmps16
    go_wp2_with fail
    go_end0
    rw [Hr.out]
    exact HT.out.post (by simp) _
  | true =>
  have H16 := hid (show ¬ tBit fl 16 = false from fun h => by have := Hf16.out; unfold tBit at h; rw [h] at this; cases this)
  obtain ⟨ln, hln⟩ : ∃ b, tLess c.out.n ak = b := ⟨_, rfl⟩
  have HL := hid (fun q => less_any c.out.n ak hcn ha ((w.alloc (.cells #[.int .i64 s0, .int .i64 d0, .int .u32 (sq : Int), .int .u32 (ak : Int), .int .i64 fl, .int .i64 wi, .int .i64 ms, .slice A n cap] 30)).drewN q))
  rw [hln] at HL
  have Hln := hid hln
  clear hln
  cases ln with
  | true =>
    have Hr := hid (show tTake c ⟨s0, d0, sq, ak, fl, wi, ms, data⟩ = { c with acks := true } by unfold tTake; rw [if_neg H5.out, if_neg H4.out, if_neg H2.out, if_neg H16.out, if_pos Hln.out])
    go_enter Try.func16, Try.ntmps16
    go_wp2_with fail
    go_quiet ((go_at_call 20; exact Calls.quiet_of_same (HL.out _)))
    go_wp2_with fail
    go_end0
    rw [Hr.out]
    exact ((HT.out.drewN nq).set1 20 (.bool true) (c' := { c with acks := true }) (fun _ _ _ => rfl) rfl rfl rfl).post (by simp) _
  | false =>
    have hc6 : c.state = 1 ∧ ak ≠ c.out.n := by
      rcases He.out with h | h | h | h | h | h
      · exact absurd h H5.out
      · exact absurd h H4.out
      · exact absurd h H2.out
      · exact absurd h H16.out
      · have := Hln.out; simp only at h; rw [h] at this; cases this
      · exact h
    have Hr := hid (show tTake c ⟨s0, d0, sq, ak, fl, wi, ms, data⟩ = c by unfold tTake; rw [if_neg H5.out, if_neg H4.out, if_neg H2.out, if_neg H16.out, if_neg (by rw [Hln.out]; simp), if_pos hc6])
    have h1 : st = 1 := by rw [← Hst.out]; exact hc6.1
    have hnb : ((ak : Int) != (c.out.n : Int)) = true := by have := hc6.2; simp; omega
    clear hc6
    subst h1
    go_enter Try.func16, Try.ntmps16
    go_wp2_with fail
    go_quiet ((go_at_call 20; exact Calls.quiet_of_same (HL.out _)))
    go_wp2_with fail
    go_quiet (fail)
    go_wp2_with fail
    go_end0
    rw [Hr.out]
    exact ((HT.out.drewN _).drewN _).post (by simp) _
end Go.Proofs.Ytahlcjkcdgahkaa
