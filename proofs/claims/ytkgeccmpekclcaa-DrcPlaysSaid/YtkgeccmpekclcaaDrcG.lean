/- Contract of a table's End. -/
import Derived.Test.YtkgeccmpekclcaaDrcF
namespace Go.Proofs.Ytkgeccmpekclcaa
open Go Go.RowKit
attribute [local go_sem ↓] Go.wp_at_zero Go.wp_at_succ
set_option maxRecDepth 100000

def endAt (l : List DCall) (k : DKey) : Nat → Bool := fun i => match l[i]? with
  | some c => decide (c.key = k) && !c.done
  | none => false
def drcEnd (l : List DCall) (k : DKey) (r : List UInt8) : List DCall × Int := match fidx (endAt l k) l.length with
  | none => (l, 2)
  | some i => (l.set i ⟨k, true, r⟩, 0)
theorem fidx_some {p : Nat → Bool} {n i : Nat} (h : fidx p n = some i) : i < n ∧ p i = true := by
  induction n with
  | zero => cases h
  | succ n ih =>
    unfold fidx at h
    cases e : fidx p n with
    | some j =>
      rw [e] at h
      injection h with h
      subst h
      obtain ⟨a, b⟩ := ih e
      exact ⟨by omega, b⟩
    | none =>
      rw [e] at h
      simp only at h
      by_cases q : p n = true
      · rw [if_pos q] at h
        injection h with h
        subst h
        exact ⟨by omega, q⟩
      · rw [if_neg q] at h
        cases h
theorem TabAt.drewN {w : World} {base gT n m : Nat} {L : List DIt} {vr : Value} {gM : Nat} {f : Value → Option Nat} (h : TabAt w base gT n m L vr gM f) (q : Nat) : TabAt (w.drewN q) base gT n m L vr gM f := h.keep (below_drewN (Below.refl _ _) q)

theorem row_ne {w : World} {base size n n' cap g off gr : Nat} {e t : TypeId} {xs ys : List Value} (h : w.ownsRow base e size (.slice (some ⟨gr, off, none⟩) n cap) n' xs) (hb : Blk w g t ys) (ht : t ≠ e) : gr ≠ g := by
  rcases h.2 with ⟨h0, _⟩ | ⟨g2, cap2, cur, hv, _, hh, _⟩
  · cases h0
  · injection hv with e1 _ _
    injection e1 with e1
    injection e1 with e1 _ _
    subst e1
    intro q
    subst q
    unfold Blk at hb
    rw [hb] at hh
    injection hh with hh
    injection hh with _ h3
    exact ht h3
theorem far_cell {w : World} {p q : Addr} {u x : Value} (h : q.block ≠ p.block) (hx : w.cell? q = some x) : (w.setCell p u).cell? q = some x := by
  have e := Below.heap_setCell w p u q.block h
  simpa [World.cell?, e] using hx
theorem first_below {w w' : World} (h : Below w.drew.heap.size w.drew w') : Below w.heap.size w w' := (below_drew w).trans h
def EndPost (base gT n m : Nat) (l : List DCall) (k : DKey) (r : List UInt8) (w : World) (e : Ending) (w' : World) : Prop :=
  e = .returned (.int .i64 (drcEnd l k r).2) ∧ TabInv w' base gT n m (drcEnd l k r).1 ∧ Below base w w' ∧ Spares w w'

theorem end_any (base gT n m : Nat) (l : List DCall) (k : DKey) (v : Value) (r : List UInt8) (w : World) (h : TabInv w base gT n m l) (hb : base ≤ w.heap.size) (hr : Bs w v r) (hl : r.length ≤ 1099511627776) :
    Calls Try.prog 12 #[ptrV (some gT), k.val, v] w (EndPost base gT n m l k r w) := by
  obtain ⟨L, vr, gM, f, rfl, h⟩ := h
  have HR := hid hr
  have K1 := hid (h.keep (below_alloc w (.cells k.cells.toArray 33)))
  have hkey := Blk.new w 33 k.cells.toArray
  have eg : ∀ args w, (callFunc 21 args).run Try.prog w = .ok (.enter 21 args) w := enters_of Try.func21 (by kernel_rfl) rfl
  have hp : PredRead Try.prog 21 #[ptrV (some w.heap.size)] (L.map DIt.ptr) (endAt (L.map DIt.c) k) (w.alloc (.cells k.cells.toArray 33)) := by
    intro q i hi
    have hi' : i < L.length := by simpa using hi
    have hx := (K1.out.it L[i] (List.getElem_mem hi')).1
    have hc := end1_at L[i].g w.heap.size L[i].c.key k L[i].c.done _ rfl L[i].rv ((w.alloc (.cells k.cells.toArray 33)).drewN q) (hx.drewN q) (hkey.drewN q)
    have e1 : (L.map DIt.ptr)[i] = ptrV (some L[i].g) := by simp [DIt.ptr]
    have e2 : endAt (L.map DIt.c) k i = (decide (L[i].c.key = k) && !L[i].c.done) := by simp [endAt, hi']
    rw [e1, e2]
    refine hc.mono ?_
    rintro e w' ⟨rfl, q', rfl⟩
    exact ⟨rfl, q + q', by simp [World.drewN, Nat.add_assoc]⟩
  have hidx := idx_any 21 #[ptrV (some w.heap.size)] eg vr (L.map DIt.ptr) (endAt (L.map DIt.c) k) (w.alloc (.cells k.cells.toArray 33)) _ (RowN.of_own K1.out.row) hp
  have hc1 : (w.alloc (.cells k.cells.toArray 33)).cell? ⟨gT, 1, none⟩ = some vr := K1.out.tab.cell 1
  rw [List.length_map] at hidx
  have HI := hid hidx
  clear hidx hp eg hr
  obtain ⟨k1, k2, k3, k4, k5⟩ := k
  dsimp only [DKey.val, DKey.cells] at *
  cases ho : fidx (endAt (L.map DIt.c) ⟨k1, k2, k3, k4, k5⟩) L.length with
  | none =>
    rw [ho] at HI
    have Hr := hid (show drcEnd (L.map DIt.c) ⟨k1, k2, k3, k4, k5⟩ r = (L.map DIt.c, 2) by unfold drcEnd; rw [List.length_map, ho])
    clear ho
    unfold ptrV
    go_enter Try.func12, Try.ntmps12
    go_wp2_with (go_at_call 18; refine HI.out.mono ?_; rintro e w' ⟨rfl, q, rfl⟩)
    go_ret
    unfold EndPost
    rw [Hr.out]
    exact ⟨rfl, ⟨L, vr, gM, f, rfl, K1.out.drewN q⟩, (below_drewN (below_alloc w _) q).mono hb, Below.spares (below_drewN (below_alloc w _) q)⟩
  | some i =>
    rw [ho] at HI
    obtain ⟨hi, hpi⟩ := fidx_some ho
    have Hr := hid (show drcEnd (L.map DIt.c) ⟨k1, k2, k3, k4, k5⟩ r = ((L.map DIt.c).set i ⟨⟨k1, k2, k3, k4, k5⟩, true, r⟩, 0) by unfold drcEnd; rw [List.length_map, ho])
    have hik : L[i].c.key = ⟨k1, k2, k3, k4, k5⟩ := by
      simp [endAt, hi] at hpi
      exact hpi.1
    have Hik := hid hik
    clear ho hpi hik
    obtain ⟨_, A, cap, hv, q1, q2, hc⟩ := RowN.of_own K1.out.row
    rw [List.length_map] at hv
    obtain ⟨gr, off, rfl, hcr⟩ : ∃ gr off, A = some ⟨gr, off, none⟩ ∧ (w.alloc (.cells #[.int .u32 (k1 : Int), .int .i64 k2, .int .u32 (k3 : Int), .int .u32 (k4 : Int), .int .u32 (k5 : Int)] 33)).cell? ⟨gr, off + i, none⟩ = some (ptrV (some L[i].g)) := by
      rcases hc with h0 | ⟨gr, off, rfl, hc⟩
      · rw [List.length_map] at h0; omega
      · exact ⟨gr, off, rfl, hc i _ (by simp [hi, DIt.ptr])⟩
    subst hv
    obtain ⟨gi, hgi⟩ : ∃ g, L[i].g = g := ⟨_, rfl⟩
    rw [hgi] at hcr
    unfold ptrV at hcr
    have Hgi := hid hgi
    clear hc hgi q1 q2 hkey
    have hiI : (i : Int) < (L.length : Int) := by omega
    have hiN : ¬ (i : Int) < 0 := by omega
    unfold ptrV
    go_enter Try.func12, Try.ntmps12
    go_upto_region 4 with (go_at_call 18; refine HI.out.mono ?_; rintro e w' ⟨rfl, q, rfl⟩; unfold idxI)
    have Kq := hid (K1.out.drewN q)
    have HRq := hid ((HR.out.alloc (.cells #[.int .u32 (k1 : Int), .int .i64 k2, .int .u32 (k3 : Int), .int .u32 (k4 : Int), .int .u32 (k5 : Int)] 33)).drewN q)
    have HBq := hid (below_drewN (below_alloc w (.cells #[.int .u32 (k1 : Int), .int .i64 k2, .int .u32 (k3 : Int), .int .u32 (k4 : Int), .int .u32 (k5 : Int)] 33)) q)
    have hc1q : ((w.alloc (.cells #[.int .u32 (k1 : Int), .int .i64 k2, .int .u32 (k3 : Int), .int .u32 (k4 : Int), .int .u32 (k5 : Int)] 33)).drewN q).cell? ⟨gT, 1, none⟩ = some (.slice (some ⟨gr, off, none⟩) L.length cap) := hc1
    have hcrq : ((w.alloc (.cells #[.int .u32 (k1 : Int), .int .i64 k2, .int .u32 (k3 : Int), .int .u32 (k4 : Int), .int .u32 (k5 : Int)] 33)).drewN q).cell? ⟨gr, off + i, none⟩ = some (.pointer (some ⟨gi, 0, none⟩)) := hcr
    generalize (w.alloc (.cells #[.int .u32 (k1 : Int), .int .i64 k2, .int .u32 (k3 : Int), .int .u32 (k4 : Int), .int .u32 (k5 : Int)] 33)).drewN q = wq at Kq HRq HBq hc1q hcrq ⊢
    have hgb := (Kq.out.it L[i] (List.getElem_mem hi)).1
    rw [Hgi.out] at hgb
    have hne1 : gT ≠ gi := Kq.out.tab.ne hgb (by decide)
    have hne2 : gr ≠ gi := row_ne Kq.out.row hgb (by decide)
    have Hgb := hid hgb
    clear hc1 hcr HI hgb
    go_region_held3 (fun wr => wr.cell? ⟨gT, 1, none⟩ = some (.slice (some ⟨gr, off, none⟩) L.length cap) ∧ wr.cell? ⟨gr, off + i, none⟩ = some (.pointer (some ⟨gi, 0, none⟩))) (refine ⟨?_, ?_⟩ <;> (repeat (first | exact hc1q | exact hcrq | exact cell_below hb1q hc1q | exact cell_below hb1q hcrq | (with_reducible refine far_cell (by first | exact hne1 | exact hne2) ?_)))) (first
      | (go_at_call 17; refine (clone_any v r _ (by first | exact HRq.out | exact HRq.out.drew) (by omega)).mono ?_; rintro e w2 ⟨v1, rfl, hown, hb1⟩; obtain ⟨A1, cap1, rfl⟩ := slice_len hown.bs rfl; have hb1q : Below wq.heap.size wq w2 := (first_below hb1); have K2 := hid (Kq.out.keep hb1q); have hbk := (K2.out.it L[i] (List.getElem_mem hi)).1; rw [Hgi.out] at hbk; have c5 : w2.cell? ⟨gi, 5, none⟩ = _ := hbk.cell 5; have c6 : w2.cell? ⟨gi, 6, none⟩ = _ := hbk.cell 6; have z5 := hbk.frozen 5; have z6 := hbk.frozen 6; have Hbk := hid hbk; have Hown := hid (show OwnBs w2 wq.heap.size 5 _ _ from hown); have Hb1 := hid hb1q; clear hown hb1 hbk)
      | fail)
    all_goals
      go_wp2
      go_ret
      unfold EndPost
      rw [Hr.out]
      have hg2 : w2.grownBy ((w2.setCell ⟨gi, 5, none⟩ (.bool true)).setCell ⟨gi, 6, none⟩ (.slice A1 r.length cap1)) (some gi) := grown_trans (grown_set _ _ _ _) (grown_set _ _ _ _)
      have hsz := HBq.out.size
      have hK2 : TabAt w2 base gT n m L (.slice (some ⟨gr, off, none⟩) L.length cap) gM f := Kq.out.keep Hb1.out
      have hfin := hK2.setCall i hi true r (.slice A1 r.length cap1) (by rw [Hgi.out]; exact hg2) (by rw [Hgi.out]; exact (Hbk.out.set_ 5 (.bool true)).set_ 6 (.slice A1 r.length cap1)) (ownBs_store (Hown.out.mono (Nat.le_trans hb hsz)) Hbk.out (by decide) hg2)
      refine ⟨rfl, ⟨_, _, _, _, ?_, hfin⟩, ?_, ?_⟩
      · rw [List.map_set, Hik.out]
      · have hbg := (Kq.out.it L[i] (List.getElem_mem hi)).2.1
        rw [Hgi.out] at hbg
        exact below_own ((HBq.out.mono hb).trans (Hb1.out.mono (by omega))) hg2 hbg (by have := Hb1.out.size; omega)
      · exact (Below.spares HBq.out).trans ((Below.spares Hb1.out).trans (grown_spares hg2 Hbk.out (.inr (.inr rfl))))
end Go.Proofs.Ytkgeccmpekclcaa
