/- TcpPlays: both connections side by side. -/
import Derived.Test.YtahlcjkcdgahkaaSegS
import Derived.Deep.MidRow
import Derived.Test.YtahlcjkcdgahkaaRcM
import Derived.Test.YtahlcjkcdgahkaaRcD
import Derived.Test.YtahlcjkcdgahkaaTcpY
import Derived.Test.YtahlcjkcdgahkaaSegH
namespace Go.Proofs.Ytahlcjkcdgahkaa
section
open Go Go.RowKit

structure TCall where
  kind : Int
  n : Int
  near : Bool
  s : TSeg
  v : Value
def TCall.cells (c : TCall) : List Value := .int .i64 c.kind :: .int .i64 c.n :: .bool c.near :: c.s.cells c.v
theorem TCall.clen (c : TCall) : c.cells.length = 11 := rfl
def tcRow (L : List TCall) : List Value := L.flatMap TCall.cells
theorem tcRow_at (L : List TCall) (i j : Nat) (hi : i < L.length) (hj : j < 11) : (tcRow L)[i * 11 + j]? = L[i].cells[j]? := by
  induction L generalizing i with
  | nil => simp at hi
  | cons x L ih =>
    rw [show tcRow (x :: L) = x.cells ++ tcRow L from rfl]
    cases i with
    | zero => rw [List.getElem?_append_left (by rw [TCall.clen]; omega)]; simp
    | succ i =>
      rw [List.getElem?_append_right (by rw [TCall.clen]; omega), TCall.clen, show (i + 1) * 11 + j - 11 = i * 11 + j by omega, ih i (by simpa using hi)]
      rfl
/-- the row of calls in memory: one of them -/
theorem call_cells {w : World} {A : Option Addr} {n cap : Nat} {L : List TCall} (h : RowN w 11 (.slice A n cap) L.length (tcRow L)) (i : Nat) (hi : i < L.length) :
    ∃ b o, A = some ⟨b, o, none⟩ ∧ ∀ j v, j < 11 → L[i].cells[j]? = some v → w.cell? ⟨b, o + (i * 11 + j), none⟩ = some v := by
  obtain ⟨hl, A1, c1, hv, _, _, hc⟩ := h
  injection hv with e1 e2 e3
  rcases hc with hc | ⟨b, o, hA, hc⟩
  · rw [hc] at hi; cases hi
  · refine ⟨b, o, e1.trans hA, fun j v hj hv => ?_⟩
    rw [← tcRow_at L i j hi hj] at hv
    exact hc _ _ hv
theorem call_len {w : World} {A : Option Addr} {n cap : Nat} {L : List TCall} (h : RowN w 11 (.slice A n cap) L.length (tcRow L)) : n = L.length := by
  obtain ⟨hl, A1, c1, hv, _⟩ := h
  injection hv
theorem u32_rem (t : TypeId) (a b : Nat) (hb : b ≠ 0) (P : Program) (w : World) : (binOp .rem t (.int .u32 (a : Int)) (.int .u32 (b : Int))).run P w = .ok (.int .u32 ((a % b : Nat) : Int)) w := by
  have h1 : ¬ ((b : Int) = 0) := by omega
  have h2 : (a : Int).tmod (b : Int) = ((a % b : Nat) : Int) := by rw [Int.tmod_eq_emod_of_nonneg (by omega)]; exact (Int.natCast_emod a b).symm
  unfold binOp
  simp only [ne_eq, not_true_eq_false, if_false]
  unfold Op.intDiv
  rw [if_neg h1]
  simp only [h2]
  rfl
theorem wpList_rem32 {P : Program} {w : World} {ops : Array Oper} {rest : List Oper} {o : Oper} {a : Act} {Q : Exit → Act → World → Prop} (hgd : o.guard = none) (T R : TypeId) (x y : Operand) (ho : o.op = .binOp .rem T x y R)
    (m n : Nat) (hx : a.eval x = .int .u32 (m : Int)) (hy : a.eval y = .int .u32 (n : Int)) (hn : n ≠ 0)
    (h : wpList P ops Q rest (a.put o.dst (.int .u32 ((m % n : Nat) : Int))) w) : wpList P ops Q (o :: rest) a w := by
  refine wpList_plain hgd fun K hK => ?_
  unfold Oper.wp execOp
  simp only [ho, hx, hy]
  simp [eqGuard, u32_rem T m n hn]
  exact hK _ _ h
end
section
open Go Go.RowKit
attribute [local go_sem ↓] Go.wp_at_zero Go.wp_at_succ
set_option maxRecDepth 100000

/-- where one stood: the world, both footprints -/
structure PlEnt where
  w : World
  F : Nat → Prop
  FX : Nat → Prop
/-- what was apart from both then is as it was, and still apart -/
structure Far (E : PlEnt) (w : World) (F FX : Nat → Prop) : Prop where
  size : E.w.heap.size ≤ w.heap.size
  keep : ∀ k, k < E.w.heap.size → ¬ E.F k → ¬ E.FX k → w.heap[k]? = E.w.heap[k]? ∧ ¬ F k ∧ ¬ FX k
theorem Far.refl (w : World) (F FX : Nat → Prop) : Far ⟨w, F, FX⟩ w F FX := ⟨Nat.le_refl _, fun _ _ h1 h2 => ⟨rfl, h1, h2⟩⟩
theorem Far.blk {E : PlEnt} {w : World} {F FX : Nat → Prop} (h : Far E w F FX) {g : Nat} {t : TypeId} {cs : List Value} (hb : Blk E.w g t cs) (h1 : ¬ E.F g) (h2 : ¬ E.FX g) : Blk w g t cs := (h.keep g hb.lt h1 h2).1.trans hb
/-- both sides while the law plays: the program's connection stands for c, the document's for x -/
structure PlSt (E : PlEnt) (w0 w : World) (gc gx : Nat) (c x : TConn) (m q : Nat) (F FX : Nat → Prop) : Prop where
  conn : Conn w0 w gc c m F
  ref : RConn w w0.heap.size gx x q FX
  i : InOk x.inn
  o : OutOk x
  b : BaseOk x
  apart : ∀ k, F k → ¬ FX k
  far : Far E w F FX
section
variable {E : PlEnt} {w0 w w' : World} {gc gx : Nat} {c c' x x' : TConn} {m m' q q' : Nat} {F F' FX FX' : Nat → Prop}
theorem PlSt.keep (h : PlSt E w0 w gc gx c x m q F FX) (hb : Below w.heap.size w w') : PlSt E w0 w' gc gx c x m q F FX := ⟨h.conn.keep hb, h.ref.keep hb, h.i, h.o, h.b, h.apart, ⟨Nat.le_trans h.far.size hb.size, fun k hk h1 h2 => ⟨(hb.block k (Nat.lt_of_lt_of_le hk h.far.size)).trans (h.far.keep k hk h1 h2).1, (h.far.keep k hk h1 h2).2⟩⟩⟩
theorem PlSt.bel (h : PlSt E w0 w gc gx c x m q F FX) : Below w0.heap.size w0 w := h.conn.bel
theorem PlSt.fresh (h : PlSt E w0 w gc gx c x m q F FX) (k : Nat) (hk : w.heap.size ≤ k ∨ k < w0.heap.size) : ¬ F k ∧ ¬ FX k :=
  ⟨fun q => by have := h.conn.inv.lt k q; omega, fun q => by have := h.ref.bd k q; omega⟩
/-- a call of the program's -/
theorem PlSt.prog (h : PlSt E w0 w gc gx c x m q F FX) (hc : Conn w0 w' gc c' m' F') (hf : Frame F w w') (hn : ∀ k, F' k → F k ∨ w.heap.size ≤ k) : PlSt E w0 w' gc gx c' x m' q F' FX :=
  ⟨hc, h.ref.frame hf (fun k hk q => h.apart k q hk), h.i, h.o, h.b, fun k hk q => by
    rcases hn k hk with h1 | h1
    · exact h.apart k h1 q
    · have := h.ref.bd k q; omega, ⟨Nat.le_trans h.far.size hf.size, fun k hk h1 h2 => by
    obtain ⟨e, k1, k2⟩ := h.far.keep k hk h1 h2
    have hz := h.far.size
    refine ⟨(hf.block k (by omega) k1).trans e, fun q => ?_, k2⟩
    rcases hn k q with r | r
    · exact k1 r
    · omega⟩⟩
/-- a call of the document's -/
theorem PlSt.doc (h : PlSt E w0 w gc gx c x m q F FX) (hc : RConn w' w0.heap.size gx x' q' FX') (hf : Frame FX w w') (hn : ∀ k, FX' k → FX k ∨ w.heap.size ≤ k) (h1 : InOk x'.inn) (h2 : OutOk x') (h3 : BaseOk x') : PlSt E w0 w' gc gx c x' m q' F FX' :=
  ⟨⟨h.conn.inv.frame hf (fun k hk q => h.apart k hk q), h.conn.i, h.conn.o, h.conn.bel.trans (hf.below (fun k hk => (h.ref.bd k hk).1) h.conn.bel.size)⟩, hc, h1, h2, h3, fun k hk q => by
    rcases hn k q with e | e
    · exact h.apart k hk e
    · have := h.conn.inv.lt k hk; omega, ⟨Nat.le_trans h.far.size hf.size, fun k hk h1 h2 => by
    obtain ⟨e, k1, k2⟩ := h.far.keep k hk h1 h2
    have hz := h.far.size
    refine ⟨(hf.block k (by omega) k2).trans e, k1, fun q => ?_⟩
    rcases hn k q with r | r
    · exact k2 r
    · omega⟩⟩
/-- blocks of the law's own are written -/
theorem PlSt.free {G : Nat → Prop} (h : PlSt E w0 w gc gx c x m q F FX) (hf : Frame G w w') (hg : ∀ k, k < w.heap.size → G k → (w0.heap.size ≤ k ∧ E.w.heap.size ≤ k) ∧ ¬ F k ∧ ¬ FX k) : PlSt E w0 w' gc gx c x m q F FX :=
  ⟨⟨h.conn.inv.frame (F' := fun k => k < w.heap.size ∧ G k) ⟨hf.os, hf.tape, hf.output, hf.size, fun k hk hn => hf.block k hk fun e => hn ⟨hk, e⟩⟩ (fun k hk q => (hg k q.1 q.2).2.1 hk), h.conn.i, h.conn.o, h.conn.bel.trans ⟨hf.os, hf.tape, hf.output, hf.size, fun k hk => hf.block k (Nat.lt_of_lt_of_le hk h.conn.bel.size) fun e => by have := (hg k (Nat.lt_of_lt_of_le hk h.conn.bel.size) e).1.1; omega⟩⟩,
    h.ref.frame (G := fun k => k < w.heap.size ∧ G k) ⟨hf.os, hf.tape, hf.output, hf.size, fun k hk hn => hf.block k hk fun e => hn ⟨hk, e⟩⟩ (fun k hk q => (hg k q.1 q.2).2.2 hk), h.i, h.o, h.b, h.apart, ⟨Nat.le_trans h.far.size hf.size, fun k hk h1 h2 => ⟨(hf.block k (Nat.lt_of_lt_of_le hk h.far.size) fun e => by have := (hg k (Nat.lt_of_lt_of_le hk h.far.size) e).1.2; omega).trans (h.far.keep k hk h1 h2).1, (h.far.keep k hk h1 h2).2⟩⟩⟩
theorem PlSt.drewN (h : PlSt E w0 w gc gx c x m q F FX) (n : Nat) : PlSt E w0 (w.drewN n) gc gx c x m q F FX := h.keep (below_drewN (Below.refl _ _) n)
theorem PlSt.drew (h : PlSt E w0 w gc gx c x m q F FX) : PlSt E w0 w.drew gc gx c x m q F FX := h.keep (below_drew _)
theorem PlSt.more (h : PlSt E w0 w gc gx c x m q F FX) (h1 : m ≤ m') (h2 : q ≤ q') : PlSt E w0 w gc gx c x m' q' F FX := ⟨⟨h.conn.inv.mono (Nat.le_refl _) h1, h.conn.i, h.conn.o, h.conn.bel⟩, h.ref.more h2, h.i, h.o, h.b, h.apart, h.far⟩
end
theorem Blk.range {w : World} {g : Nat} {t : TypeId} {cs : List Value} (h : Blk w g t cs) (o : Nat) : w.rangeAt g o (cs.drop o) := fun j v hv => by
  rw [List.getElem?_drop] at hv
  rw [h.cell (o + j)]
  exact hv
theorem frame_one {w w' : World} {g : Nat} (h : w.grownBy w' (some g)) : Frame (fun k => k = g) w w' := frame_grown h (fun k hk => by injection hk with hk; exact hk.symm)
/-- what a call of both leaves -/
def DonePost (E : PlEnt) (w0 : World) (gc gx m q k : Nat) (e : Ending) (w' : World) : Prop :=
  e = .returned (.bool true) ∧ ∃ c' F' FX', PlSt E w0 w' gc gx c' c' (m + k) (q + k) F' FX'
/-- a block of the law's own, apart from both -/
structure OwnP (w : World) (g : Nat) (t : TypeId) (cs : List Value) (F FX : Nat → Prop) : Prop where
  blk : Blk w g t cs
  a : ¬ F g
  x : ¬ FX g
theorem OwnP.keep {w w' : World} {g : Nat} {t : TypeId} {cs : List Value} {F FX : Nat → Prop} (h : OwnP w g t cs F FX) (hb : Below w.heap.size w w') : OwnP w' g t cs F FX := ⟨h.blk.keep hb, h.a, h.x⟩
/-- Out, and what it leaves -/
theorem out_connF {w0 w : World} {g : Nat} {c : TConn} {m : Nat} {F : Nat → Prop} (h : Conn w0 w g c m F) (l : List TSeg) (hl : (tOut c).1 = l) :
    Calls Try.prog 17 #[.pointer (some ⟨g, 0, none⟩)] w fun e w' => ∃ v', e = .returned v' ∧ OwnSgL w' w.heap.size v' l ∧ Conn w0 w' g (tOut c).2 m F ∧ Frame F w w' := by
  refine (out_any w0.heap.size g c m F w h.inv h.i h.o).mono ?_
  rintro e w' ⟨v', rfl, hown, hi, hf⟩
  have := tOut_ok h.o
  exact ⟨v', rfl, by rw [← hl]; exact hown, h.frameB hi hf (by rw [this.2.1]; exact h.i) this.1, hf⟩
/-! the calls, both sides' -/
section
variable {E : PlEnt} {w0 w : World} {gc gx : Nat} {c x : TConn} {m q : Nat} {F FX : Nat → Prop}
theorem pl_out (h : PlSt E w0 w gc gx c x m q F FX) (l : List TSeg) (hl : (tOut c).1 = l) :
    Calls Try.prog 17 #[.pointer (some ⟨gc, 0, none⟩)] w fun e w' => ∃ v', e = .returned v' ∧ OwnSgL w' w.heap.size v' l ∧ PlSt E w0 w' gc gx (tOut c).2 x m q F FX := by
  refine (out_connF h.conn l hl).mono ?_
  rintro e w' ⟨v', rfl, ho, hc, hf⟩
  exact ⟨v', rfl, ho, h.prog hc hf (fun _ h => .inl h)⟩
theorem pl_rout (h : PlSt E w0 w gc gx c x m q F FX) (l : List TSeg) (hl : (tOut x).1 = l) :
    Calls Try.prog 51 #[.pointer (some ⟨gx, 0, none⟩)] w fun e w' => ∃ v', e = .returned v' ∧ OwnRgL w' w.heap.size v' l ∧ PlSt E w0 w' gc gx c (tOut x).2 m q F FX ∧ Frame FX w w' := by
  refine (rout_any w0.heap.size gx x q FX w h.ref h.i h.o h.b).mono ?_
  rintro e w' ⟨v', rfl, ho, hc, hf⟩
  have := tOut_ok h.o
  exact ⟨v', rfl, by rw [← hl]; exact ho, h.doc hc hf (fun _ h => .inl h) (by rw [this.2.1]; exact h.i) this.1 (tOut_base h.o h.b), hf⟩
theorem pl_tick (h : PlSt E w0 w gc gx c x m q F FX) (n : Int) :
    Calls Try.prog 23 #[.pointer (some ⟨gc, 0, none⟩), .int .i64 n] w fun e w' => (∃ u, e = .returned u) ∧ PlSt E w0 w' gc gx (tTick c n) x m q F FX := by
  refine (tick_conn h.conn n).mono ?_
  rintro e w' ⟨hu, hc, hf⟩
  exact ⟨hu, h.prog hc hf (fun _ h => .inl h)⟩
theorem pl_rtick (h : PlSt E w0 w gc gx c x m q F FX) (n : Int) (hn : -9223372036854775808 ≤ n ∧ n ≤ 1099511627776) :
    Calls Try.prog 49 #[.pointer (some ⟨gx, 0, none⟩), .int .i64 n] w fun e w' => (∃ u, e = .returned u) ∧ PlSt E w0 w' gc gx c (tTick x n) m q F FX := by
  refine (rtick_conn w0.heap.size gx x q FX n w h.ref h.o h.b hn).mono ?_
  rintro e w' ⟨hu, hc, hf⟩
  have := tTick_ok h.o n
  exact ⟨hu, h.doc hc hf (fun _ h => .inl h) (by rw [this.2.1]; exact h.i) this.1 (tTick_base h.b n)⟩
theorem pl_end (h : PlSt E w0 w gc gx c x m q F FX) :
    Calls Try.prog 29 #[.pointer (some ⟨gc, 0, none⟩)] w fun e w' => (∃ u, e = .returned u) ∧ PlSt E w0 w' gc gx (tEnd c) x m q F FX := by
  refine (end_conn h.conn).mono ?_
  rintro e w' ⟨hu, hc, hf⟩
  exact ⟨hu, h.prog hc hf (fun _ h => .inl h)⟩
theorem pl_rend (h : PlSt E w0 w gc gx c x m q F FX) : PlSt E w0 (w.setCell ⟨gx, 13, none⟩ (.bool true)) gc gx c (tEnd x) m q F FX := by
  have hr : RConn (w.setCell ⟨gx, 13, none⟩ (.bool true)) w0.heap.size gx (tEnd x) q FX := by
    obtain ⟨a1, a2, a3, a4, a5, a6, a7, h1, h2⟩ := h.ref
    exact ⟨a1, a2, a3, a4, a5, a6, a7, h1.set1 13 _, h2.early, h2.own, h2.owe, h2.gv, h2.len, h2.num⟩
  exact h.doc hr (h.ref.fset 13 _) (fun _ h => .inl h) h.i (tEnd_ok h.o) (tEnd_base h.b)
theorem pl_send (h : PlSt E w0 w gc gx c x m q F FX) (v : Value) (b : List UInt8) (hb : Bs w v b) :
    Calls Try.prog 21 #[.pointer (some ⟨gc, 0, none⟩), v] w fun e w' => e = .returned (.int .i64 (tSend c b).2) ∧ ∃ F', PlSt E w0 w' gc gx (tSend c b).1 x m q F' FX ∧ Frame F w w' := by
  refine (send_conn h.conn v b hb).mono ?_
  rintro e w' ⟨he, F', hc, hf, hn⟩
  exact ⟨he, F', h.prog hc hf hn, hf⟩
theorem pl_rsend (h : PlSt E w0 w gc gx c x m q F FX) (A : Option Addr) (n cap : Nat) (b : List UInt8) (hb : Bs w (.slice A n cap) b) (hl : n ≤ 100000) :
    Calls Try.prog 48 #[.pointer (some ⟨gx, 0, none⟩), .slice A n cap] w fun e w' => e = .returned (.int .i64 (tSend x b).2) ∧ ∃ FX', PlSt E w0 w' gc gx c (tSend x b).1 m q F FX' ∧ Frame FX w w' := by
  refine (rsend_conn w0.heap.size gx x q FX b A n cap w h.ref h.o hb hl).mono ?_
  rintro e w' ⟨he, F', hc, hf, hn⟩
  have := tSend_ok h.o b
  exact ⟨he, F', h.doc hc hf hn (by rw [this.2]; exact h.i) this.1 (tSend_base h.b b), hf⟩
theorem recv_own (base g : Nat) (c : TConn) (m : Nat) (F : Nat → Prop) (w : World) (h : ConnInv w base g c m F) (hr : c.inn.ready.length ≤ 16384) :
    Calls Try.prog 19 #[.pointer (some ⟨g, 0, none⟩)] w (fun e w' => RecvPost base g c m F w e w' ∧ ∃ v, e = .returned v ∧ ∀ k, v.ownBlock = some k → F k) := by
  obtain ⟨vr, gM, vb, f, h⟩ := h
  have H := hid h
  obtain ⟨n, hn⟩ : ∃ n, c.inn.ready.length = n := ⟨_, rfl⟩
  obtain ⟨A, cap, rfl⟩ := slice_len h.ready.bs hn
  have Hn := hid hn
  have c1 : w.cell? ⟨g, 1, none⟩ = some (.slice A n cap) := h.tab.cell 1
  have c20 : w.cell? ⟨g, 20, none⟩ = some (.bool c.acks) := h.tab.cell 20
  have z1 := h.tab.frozen 1
  have z20 := h.tab.frozen 20
  have HW := hid (window_any g A n cap w c1 (by omega))
  obtain ⟨sm, hsm⟩ : ∃ b, decide ((16384 - (n : Int)) < 1460) = b := ⟨_, rfl⟩
  obtain ⟨ac, hac⟩ : ∃ b, c.acks = b := ⟨_, rfl⟩
  have Hsm := hid hsm
  have Hac := hid hac
  rw [hac] at c20
  clear h hn hac hr
  go_enter Try.func19, Try.ntmps19
  go_wp2_with (go_at_call 45; refine HW.out.mono ?_; rintro e w' ⟨rfl, rfl⟩)
  all_goals
    go_ret
    refine ⟨recv_done H.out _ ?_, _, rfl, H.out.fr⟩
    rw [Hn.out, Hac.out, Hsm.out]
    simp_all
theorem pl_recv (h : PlSt E w0 w gc gx c x m q F FX) :
    Calls Try.prog 19 #[.pointer (some ⟨gc, 0, none⟩)] w fun e w' => ∃ v' F', e = .returned v' ∧ Bs w' v' c.inn.ready ∧ PlSt E w0 w' gc gx (tRecv c) x m q F' FX ∧ ∀ k, v'.ownBlock = some k → ¬ FX k := by
  refine (recv_own w0.heap.size gc c m F w h.conn.inv h.conn.i.len).mono ?_
  rintro e w' ⟨⟨v', F', rfl, hown, hi, hfr, hz, hsub, hne⟩, v, hv, hk⟩
  injection hv with hv
  subst hv
  have := tRecv_ok h.conn.o h.conn.i
  exact ⟨v', F', rfl, hown.bs, h.prog (h.conn.frameB hi hfr this.2 this.1) hfr (fun k hk => .inl (hsub k hk)), fun k h1 h2 => h.apart k (hk k h1) h2⟩
theorem pl_rrecv (h : PlSt E w0 w gc gx c x m q F FX) :
    Calls Try.prog 50 #[.pointer (some ⟨gx, 0, none⟩)] w fun e w' => ∃ v', e = .returned v' ∧ Bs w' v' x.inn.ready ∧ PlSt E w0 w' gc gx c (tRecv x) m q F FX ∧ Frame FX w w' := by
  refine (rrecv_conn w0.heap.size gx x q FX w h.ref h.i).mono ?_
  rintro e w' ⟨v', rfl, hb, hc, hf⟩
  have := tRecv_ok h.o h.i
  exact ⟨v', rfl, hb, h.doc hc hf (fun _ h => .inl h) this.2 this.1 (tRecv_base h.b), hf⟩
theorem pl_take (h : PlSt E w0 w gc gx c x m q F FX) (s0 d0 : Int) (sq ak : Nat) (fl wi ms : Int) (data : List UInt8) (A : Option Addr) (n cap : Nat) (hs : sq < 4294967296) (ha : ak < 4294967296) (hw : 0 ≤ wi ∧ wi ≤ 65535) (hd : Bs w (.slice A n cap) data) (hl : data.length = n) (hn : n ≤ 100000) (hm : m ≤ 1000000000) (hf : n = 0 ∨ ∀ k, (Value.slice A n cap).ownBlock = some k → ¬ F k) (c' : TConn) (hc : tTake c ⟨s0, d0, sq, ak, fl, wi, ms, data⟩ = c') :
    Calls Try.prog 16 #[.pointer (some ⟨gc, 0, none⟩), .agg #[.int .i64 s0, .int .i64 d0, .int .u32 (sq : Int), .int .u32 (ak : Int), .int .i64 fl, .int .i64 wi, .int .i64 ms, .slice A n cap]] w fun e w' => (∃ u, e = .returned u) ∧ ∃ F', PlSt E w0 w' gc gx c' x (m + n) q F' FX ∧ Frame F w w' ∧ ∀ k, F' k → F k ∨ w.heap.size ≤ k := by
  refine (take_at h.conn s0 d0 sq ak fl wi ms data A n cap hs ha hw.1 hw.2 hd hl hn hm hf c' hc).mono ?_
  rintro e w' ⟨hu, F', hc, hf, hn⟩
  exact ⟨hu, F', h.prog hc hf hn, hf, hn⟩
theorem pl_rtake (h : PlSt E w0 w gc gx c x m q F FX) (s0 d0 : Int) (sq ak : Nat) (fl wi ms : Int) (data : List UInt8) (A : Option Addr) (n cap : Nat) (hs : sq < 4294967296) (ha : ak < 4294967296) (hw : 0 ≤ wi ∧ wi ≤ 65535) (hd : Bs w (.slice A n cap) data) (hl : data.length = n) (hn : n ≤ 100000) (hm : q ≤ 1000000) (hf : n = 0 ∨ ∀ k, (Value.slice A n cap).ownBlock = some k → ¬ FX k) (c' : TConn) (hc : tTake x ⟨s0, d0, sq, ak, fl, wi, ms, data⟩ = c') :
    Calls Try.prog 47 #[.pointer (some ⟨gx, 0, none⟩), .agg #[.int .i64 s0, .int .i64 d0, .int .u32 (sq : Int), .int .u32 (ak : Int), .int .i64 fl, .int .i64 wi, .int .i64 ms, .slice A n cap]] w fun e w' => (∃ u, e = .returned u) ∧ ∃ FX', PlSt E w0 w' gc gx c c' m (q + n) F FX' ∧ Frame FX w w' ∧ ∀ k, FX' k → FX k ∨ w.heap.size ≤ k := by
  subst hc
  subst hl
  refine (rtake_conn w0.heap.size gx x q FX ⟨s0, d0, sq, ak, fl, wi, ms, data⟩ A _ cap w h.ref h.i h.o h.b hs ha hd hn hm hf).mono ?_
  rintro e w' ⟨hu, F', hc, hf, hn⟩
  have := tTake_ok h.o h.i ⟨s0, d0, sq, ak, fl, wi, ms, data⟩ hw ha
  exact ⟨hu, F', h.doc hc hf hn this.2.1 this.1 (tTake_base h.o h.b _ ha), hf, hn⟩
end
end
end Go.Proofs.Ytahlcjkcdgahkaa
