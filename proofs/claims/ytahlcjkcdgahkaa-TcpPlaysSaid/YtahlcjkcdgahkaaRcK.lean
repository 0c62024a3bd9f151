/- The document's Out: what goes with it. -/
import Derived.Test.YtahlcjkcdgahkaaRcJ
namespace Go.Proofs.Ytahlcjkcdgahkaa
open Go Go.RowKit
set_option maxRecDepth 100000

theorem OwnRgs.drewN {w : World} {base : Nat} {v : Value} {qs : List (TSeg × Value)} (h : OwnRgs w base v qs) (q : Nat) : OwnRgs (w.drewN q) base v qs := h.below (below_drewN (Below.refl _ _) q)
/-- while Out goes on: the connection, what goes out -/
structure ROutAt (base g m : Nat) (F : Nat → Prop) (w : World) (v : Value) (c : TConn) (l : List TSeg) (wr : World) : Prop where
  inv : RConn wr base g c m F
  own : OwnRgL wr w.heap.size v l
  fr : Frame F w wr
  flt : ∀ k, F k → k < w.heap.size
section
variable {base g m : Nat} {F : Nat → Prop} {w : World} {v v' : Value} {c c' : TConn} {l l' : List TSeg} {wr w' : World}
theorem ROutAt.keep (h : ROutAt base g m F w v c l wr) (hb : Below wr.heap.size wr w') : ROutAt base g m F w v c l w' := ⟨h.inv.keep hb, h.own.below hb, h.fr.trans (Below.frameF hb F) (fun _ _ h => h), h.flt⟩
theorem ROutAt.drewN (h : ROutAt base g m F w v c l wr) (q : Nat) : ROutAt base g m F w v c l (wr.drewN q) := h.keep (below_drewN (Below.refl _ _) q)
theorem ROutAt.to (h : ROutAt base g m F w v c l wr) (hc : RConn w' base g c' m F) (hf : Frame F wr w') : ROutAt base g m F w v c' l w' := ⟨hc, h.own.frame hf h.flt, h.fr.trans hf (fun _ _ h => h), h.flt⟩
theorem ROutAt.post (h : ROutAt base g m F w v c l wr) : RSgsPost base g l c m F w (.returned v) wr := ⟨v, rfl, h.own, h.inv, h.fr⟩
theorem RConn.behind (h : RConn wr base g c m F) (hl : ∀ k, F k → k < w.heap.size) (hb : Below w.heap.size wr w') : RConn w' base g c m F :=
  h.frame (G := fun k => w.heap.size ≤ k) ⟨hb.os, hb.tape, hb.output, hb.size, fun k _ hn => hb.block k (by omega)⟩ (fun k hk hn => by have := hl k hk; omega)
/-- one segment is appended -/
theorem ROutAt.one {w2 w9 : World} {s : TSeg} {vs : Value} {qs : List (TSeg × Value)} (h : ROutAt base g m F w v c (qs.map Prod.fst) wr) (hq : OwnRgs wr w.heap.size v qs) (hb : Below wr.heap.size wr w2) (ho : OwnBs w2 w.heap.size 5 vs s.data) (hrow : w9.ownsRow w.heap.size 51 8 v' (qs.length + 1) (sgRow qs ++ s.cells vs)) (hg : w2.grownBy w9 v.ownBlock) :
    ROutAt base g m F w v' c (qs.map Prod.fst ++ [s]) w9 := by
  have hz := h.fr.size
  have hq2 := hq.below hb
  have happ := OwnRgs.app (rs := [(s, vs)]) hq2 (fun p hp => by
    obtain rfl : p = _ := by simpa using hp
    exact ho) (by rw [sgRow_one]; exact hrow) hg
  have hb9 : Below w.heap.size wr w9 := (hb.mono hz).trans (grown_below hq2.row (by have := hb.size; omega) hg)
  exact ⟨h.inv.behind h.flt hb9, ⟨_, happ, by simp⟩, h.fr.tail hb9, h.flt⟩
theorem ROutAt.many {w2 w9 : World} (h : ROutAt base g m F w v c l wr) (hi : RConn w2 base g c' m F) (hf : Frame F wr w2) {qs : List (TSeg × Value)} (hq : OwnRgs w2 w.heap.size v qs) (hg : w2.grownBy w9 v.ownBlock) (ho : OwnRgL w9 w.heap.size v' l') : ROutAt base g m F w v' c' l' w9 := by
  have hz : w.heap.size ≤ w2.heap.size := Nat.le_trans h.fr.size hf.size
  have hb9 : Below w.heap.size w2 w9 := grown_below hq.row hz hg
  exact ⟨hi.behind h.flt hb9, ho, (h.fr.trans hf (fun _ _ h => h)).tail hb9, h.flt⟩
end
theorem rsgRow_one' (rs : List (TSeg × Value)) (w : World) (base : Nat) (v : Value) (h : OwnRgs w base v rs) : ∀ u ∈ sgRow rs, u.oneCell' = true := by
  intro u hu
  obtain ⟨q, hq, hu⟩ := List.mem_flatMap.1 hu
  obtain ⟨_, A, c, hv, _⟩ := (h.datas q hq).bs
  rw [hv] at hu
  simp [TSeg.cells] at hu
  rcases hu with rfl | rfl | rfl | rfl | rfl | rfl | rfl | rfl <;> rfl
/-- told in the order in which the document does it -/
def tAgain (c : TConn) : List TSeg × TConn := if c.again = true then tResent (tQuiet c) else ([], tQuiet c)
theorem tResent_quiet (c : TConn) : tResent (tQuiet c) = ((tResent c).1, tQuiet (tResent c).2) := by
  unfold tResent tQuiet
  split
  · rfl
  split
  · rfl
  split <;> rfl
theorem tOut_again {c : TConn} (h1 : c.off = false) (h2 : c.gave = false) : tOut c = tOut2 (tAgain c).2 (tOutA c ++ (tAgain c).1) := by
  unfold tOut tAgain tOutB
  rw [if_neg (by rw [h1]; simp), if_neg (by rw [h2]; simp)]
  split
  · rw [tResent_quiet]
  · rfl
theorem quiet_base' {c : TConn} (hb : BaseOk c) : BaseOk (tQuiet c) := ⟨fun e => by obtain ⟨h1, h2, h3, h4, h5, _⟩ := hb.s1 e; exact ⟨h1, h2, h3, h4, h5, rfl⟩, hb.base, hb.done, hb.don2, hb.fin, hb.gave, hb.off, hb.five, hb.clock, hb.told⟩
theorem tAgain_ok {c : TConn} (h : OutOk c) : OutOk (tAgain c).2 ∧ OnlyN (tQuiet c) (tAgain c).2 ∧ (tAgain c).1.length ≤ 1 := by
  unfold tAgain
  split
  · exact tResent_ok (quiet_ok h)
  · exact ⟨quiet_ok h, rfl, by simp⟩
theorem tAgain_base {c : TConn} (hb : BaseOk c) : BaseOk (tAgain c).2 := by
  unfold tAgain
  split
  · exact tResent_base (quiet_base' hb)
  · exact quiet_base' hb
theorem RConn.again_ {w : World} {base g : Nat} {c : TConn} {q : Nat} {F : Nat → Prop} (h : RConn w base g c q F) (b : Bool) : RConn (w.setCell ⟨g, 19, none⟩ (.bool b)) base g { c with again := b } q F := by
  obtain ⟨a1, a2, a3, a4, a5, a6, a7, h1, h2⟩ := h
  exact ⟨a1, a2, a3, a4, a5, a6, a7, h1.set1 19 _, h2.early, h2.own, h2.owe, h2.gv, h2.len, h2.num⟩
theorem RConn.gave_ {w : World} {base g : Nat} {c : TConn} {q : Nat} {F : Nat → Prop} (h : RConn w base g c q F) : RConn (w.setCell ⟨g, 20, none⟩ (.bool false)) base g { c with off := true } q F := by
  obtain ⟨a1, a2, a3, a4, a5, a6, a7, h1, h2⟩ := h
  exact ⟨a1, a2, false, a4, a5, a6, a7, h1.set1 20 _, h2.early, h2.own, h2.owe, by simp, h2.len, h2.num⟩
theorem RConn.fin_ {w : World} {base g : Nat} {c : TConn} {q : Nat} {F : Nat → Prop} (h : RConn w base g c q F) (b : Bool) : RConn (w.setCell ⟨g, 14, none⟩ (.bool b)) base g { c with out := { c.out with fin := b } } q F := by
  obtain ⟨a1, a2, a3, a4, a5, a6, a7, h1, h2⟩ := h
  exact ⟨a1, a2, a3, a4, a5, a6, a7, h1.set1 14 _, h2.early, h2.own, h2.owe, h2.gv, h2.len, h2.num⟩
theorem RConn.begin0 {w : World} {base g : Nat} {c : TConn} {q : Nat} {F : Nat → Prop} (h : RConn w base g c q F) (hc : c.state ≠ 1 ∨ c.begin_ = false) : RConn w base g { c with begin_ := false } q F := by
  obtain ⟨a1, a2, a3, a4, a5, a6, a7, h1, h2⟩ := h
  exact ⟨a1, a2, a3, a4, a5, a6, a7, h1, h2.early, fun e => by rcases hc with hc | hc; exact absurd e hc; rw [h2.own e, hc], h2.owe, h2.gv, h2.len, h2.num⟩
end Go.Proofs.Ytahlcjkcdgahkaa
