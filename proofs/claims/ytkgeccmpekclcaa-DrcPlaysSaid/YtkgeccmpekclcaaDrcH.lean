/- A table's Begin: the ways on which nothing is written. -/
import Derived.Test.YtkgeccmpekclcaaDrcG
namespace Go.Proofs.Ytkgeccmpekclcaa
open Go Go.RowKit
attribute [local go_sem ↓] Go.wp_at_zero Go.wp_at_succ
set_option maxRecDepth 100000

def doneAt (l : List DCall) : Nat → Bool := fun i => match l[i]? with
  | some c => c.done
  | none => false
def drcBegin (n : Nat) (l : List DCall) (k : DKey) : (Int × List UInt8) × List DCall :=
  match l.find? (fun c => decide (c.key = k)) with
  | some c => if c.done then ((3, c.reply), l) else ((2, []), l)
  | none =>
    if l.length = n then
      match fidx (doneAt l) l.length with
      | none => ((2, []), l)
      | some i => ((1, []), l.eraseIdx i ++ [⟨k, false, []⟩])
    else ((1, []), l ++ [⟨k, false, []⟩])

def BeginPost (base gT n m : Nat) (l : List DCall) (k : DKey) (w : World) (e : Ending) (w' : World) : Prop :=
  ∃ v', e = .returned (.tuple #[.int .i64 (drcBegin n l k).1.1, v']) ∧ OwnBs w' w.heap.size 5 v' (drcBegin n l k).1.2 ∧ TabInv w' base gT n (m + 1) (drcBegin n l k).2 ∧ Below base w w' ∧ Spares w w'
theorem TabInv.mono {w : World} {base gT n m m' : Nat} {l : List DCall} (h : TabInv w base gT n m l) (hm : m ≤ m') : TabInv w base gT n m' l := by
  obtain ⟨L, vr, gM, f, e, h⟩ := h
  exact ⟨L, vr, gM, f, e, h.tab, h.tabB, h.row, h.nodup, h.it, h.map.mono hm, h.mapB, h.hit, h.miss, h.keys, h.oks⟩
theorem find_item {L : List DIt} {k : DKey} {c : DCall} (h : (L.map DIt.c).find? (fun c => decide (c.key = k)) = some c) : ∃ x ∈ L, x.c = c ∧ c.key = k := by
  have h1 := List.find?_some h
  have h2 := List.mem_of_find?_eq_some h
  obtain ⟨x, hx, rfl⟩ := List.mem_map.1 h2
  exact ⟨x, hx, rfl, by simpa using h1⟩
theorem find_miss {L : List DIt} {k : DKey} (h : (L.map DIt.c).find? (fun c => decide (c.key = k)) = none) : ∀ x ∈ L, x.c.key ≠ k := by
  intro x hx e
  have := List.find?_eq_none.1 h x.c (List.mem_map_of_mem hx)
  simp [e] at this

theorem begin_hit (base gT n m : Nat) (l : List DCall) (k : DKey) (w : World) (h : TabInv w base gT n m l) (hb : base ≤ w.heap.size) (hk : k.Ok) (c : DCall) (hc : l.find? (fun c => decide (c.key = k)) = some c) (hl : c.reply.length ≤ 1099511627776) :
    Calls Try.prog 9 #[ptrV (some gT), k.val] w (BeginPost base gT n m l k w) := by
  obtain ⟨L, vr, gM, f, rfl, h⟩ := h
  obtain ⟨x, hx, rfl, hxk⟩ := find_item hc
  have Hr := hid (show drcBegin n (L.map DIt.c) k = if x.c.done then ((3, x.c.reply), L.map DIt.c) else ((2, []), L.map DIt.c) by unfold drcBegin; rw [hc])
  obtain ⟨kl, hkl⟩ : ∃ kl, keyOf Try.prog 33 k.val = some kl := dkey_of k hk
  have hf : f k.val = some x.g := by rw [← hxk]; exact h.hit x hx
  have K1 := hid (h.keep (below_alloc w (.cells k.cells.toArray 33)))
  have hlook : ∀ q, (Instr.lookup 59 (.map (some gM)) k.val false).run Try.prog ((w.alloc (.cells k.cells.toArray 33)).drewN q) = .ok (ptrV (some x.g)) ((w.alloc (.cells k.cells.toArray 33)).drewN q) := fun q => by
    rw [(K1.out.map.drewN q).look dkeyed Try.underlying59 (ptrzero _) hkl, hf]
  obtain ⟨hxb, _, hxo⟩ := K1.out.it x hx
  have c5 : (w.alloc (.cells k.cells.toArray 33)).cell? ⟨x.g, 5, none⟩ = some (.bool x.c.done) := hxb.cell 5
  have c6 : (w.alloc (.cells k.cells.toArray 33)).cell? ⟨x.g, 6, none⟩ = some x.rv := hxb.cell 6
  have hc2 : (w.alloc (.cells k.cells.toArray 33)).cell? ⟨gT, 2, none⟩ = some (.map (some gM)) := K1.out.tab.cell 2
  have Hxo := hid hxo.bs
  obtain ⟨gx, hgx⟩ : ∃ g, x.g = g := ⟨_, rfl⟩
  rw [hgx] at c5 c6 hlook
  clear hxb hxo hkl hf hc hxk hgx hk
  obtain ⟨k1, k2, k3, k4, k5⟩ := k
  dsimp only [DKey.val, DKey.cells] at *
  cases hd : x.c.done with
  | true =>
    rw [hd] at c5
    have Hr2 := hid (show drcBegin n (L.map DIt.c) ⟨k1, k2, k3, k4, k5⟩ = ((3, x.c.reply), L.map DIt.c) by rw [Hr.out, hd]; rfl)
    have Hb := hid hb
    clear hd
    unfold ptrV at hlook ⊢
    go_enter Try.func9, Try.ntmps9
    go_upto_region 1 with (fail)
    go_quiet (fail)
    have Kq := hid (K1.out.drewN nq)
    have Hxq := hid (Hxo.out.drewN nq)
    have HBq := hid (below_drewN (below_alloc w (.cells #[.int .u32 (k1 : Int), .int .i64 k2, .int .u32 (k3 : Int), .int .u32 (k4 : Int), .int .u32 (k5 : Int)] 33)) nq)
    have c5q : ((w.alloc (.cells #[.int .u32 (k1 : Int), .int .i64 k2, .int .u32 (k3 : Int), .int .u32 (k4 : Int), .int .u32 (k5 : Int)] 33)).drewN nq).cell? ⟨gx, 5, none⟩ = some (.bool true) := c5
    have c6q : ((w.alloc (.cells #[.int .u32 (k1 : Int), .int .i64 k2, .int .u32 (k3 : Int), .int .u32 (k4 : Int), .int .u32 (k5 : Int)] 33)).drewN nq).cell? ⟨gx, 6, none⟩ = some x.rv := c6
    generalize (w.alloc (.cells #[.int .u32 (k1 : Int), .int .i64 k2, .int .u32 (k3 : Int), .int .u32 (k4 : Int), .int .u32 (k5 : Int)] 33)).drewN nq = wq at Kq Hxq HBq c5q c6q ⊢
    clear c5 c6 hc2 hlook
    go_wp2_with (go_at_call 17; refine (clone_any x.rv x.c.reply _ Hxq.out (by omega)).mono ?_; rintro e w2 ⟨v1, rfl, hown, hb1⟩; have Hown := hid hown; have Hb1 := hid hb1; clear hown hb1)
    go_ret2
    unfold BeginPost
    rw [Hr2.out]
    have hsz := HBq.out.size
    exact ⟨_, rfl, Hown.out.mono hsz, TabInv.mono ⟨L, vr, gM, f, rfl, Kq.out.keep Hb1.out⟩ (by omega), (HBq.out.mono Hb.out).trans (Hb1.out.mono (by omega)), (Below.spares HBq.out).trans (Below.spares Hb1.out)⟩
  | false =>
    rw [hd] at c5
    have Hr2 := hid (show drcBegin n (L.map DIt.c) ⟨k1, k2, k3, k4, k5⟩ = ((2, []), L.map DIt.c) by rw [Hr.out, hd]; rfl)
    have Hb := hid hb
    clear hd
    unfold ptrV at hlook ⊢
    go_enter Try.func9, Try.ntmps9
    go_upto_region 1 with (fail)
    go_quiet (fail)
    have Kq := hid (K1.out.drewN nq)
    have HBq := hid (below_drewN (below_alloc w (.cells #[.int .u32 (k1 : Int), .int .i64 k2, .int .u32 (k3 : Int), .int .u32 (k4 : Int), .int .u32 (k5 : Int)] 33)) nq)
    have c5q : ((w.alloc (.cells #[.int .u32 (k1 : Int), .int .i64 k2, .int .u32 (k3 : Int), .int .u32 (k4 : Int), .int .u32 (k5 : Int)] 33)).drewN nq).cell? ⟨gx, 5, none⟩ = some (.bool false) := c5
    generalize (w.alloc (.cells #[.int .u32 (k1 : Int), .int .i64 k2, .int .u32 (k3 : Int), .int .u32 (k4 : Int), .int .u32 (k5 : Int)] 33)).drewN nq = wq at Kq HBq c5q ⊢
    clear c5 c6 hc2 hlook
    go_wp2_with fail
    go_ret2
    unfold BeginPost
    rw [Hr2.out]
    exact ⟨_, rfl, OwnBs.nil _ _ _, TabInv.mono ⟨L, vr, gM, f, rfl, Kq.out⟩ (by omega), HBq.out.mono Hb.out, Below.spares HBq.out⟩
end Go.Proofs.Ytkgeccmpekclcaa
