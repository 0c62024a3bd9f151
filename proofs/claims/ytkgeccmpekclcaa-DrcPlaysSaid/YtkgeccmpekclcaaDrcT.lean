/- A table's Begin and End, as told to one that writes into what it handed over, or got. -/
import Derived.Test.YtkgeccmpekclcaaDrcS
namespace Go.Proofs.Ytkgeccmpekclcaa
open Go Go.RowKit
attribute [local go_sem ↓] Go.wp_at_zero Go.wp_at_succ
set_option maxRecDepth 100000

theorem own_ge {w : World} {base size n g : Nat} {e : TypeId} {v : Value} {xs : List Value} (h : w.ownsRow base e size v n xs) (hg : v.ownBlock = some g) : base ≤ g := by
  rcases h.2 with ⟨rfl, _⟩ | ⟨g2, cap, cur, rfl, hb, _⟩
  · simp [Value.ownBlock] at hg
  · simp only [Value.ownBlock, Option.some.injEq] at hg
    omega
theorem own_lt {w : World} {base size n g : Nat} {e : TypeId} {v : Value} {xs : List Value} (h : w.ownsRow base e size v n xs) (hg : v.ownBlock = some g) : g < w.heap.size := by
  rcases h.2 with ⟨rfl, _⟩ | ⟨g2, cap, cur, rfl, _, hh, _⟩
  · simp [Value.ownBlock] at hg
  · simp only [Value.ownBlock, Option.some.injEq] at hg
    have := (Array.getElem?_eq_some_iff.1 hh).1
    omega

/-- .. the table's replies lie apart from block gm -/
def TabOff (w : World) (base gT n m : Nat) (l : List DCall) (gm : Nat) : Prop := ∃ L vr gM f, L.map DIt.c = l ∧ TabAt w base gT n m L vr gM f ∧ ∀ x ∈ L, x.rv.ownBlock ≠ some gm
theorem TabOff.inv {w : World} {base gT n m gm : Nat} {l : List DCall} (h : TabOff w base gT n m l gm) : TabInv w base gT n m l := by
  obtain ⟨L, vr, gM, f, e, h, _⟩ := h
  exact ⟨L, vr, gM, f, e, h⟩
theorem TabInv.off {w w' : World} {base gT n m gm : Nat} {l : List DCall} (h : TabInv w base gT n m l) (hb : Below w.heap.size w w') (hg : w.heap.size ≤ gm) : TabOff w' base gT n m l gm := by
  obtain ⟨L, vr, gM, f, e, h⟩ := h
  refine ⟨L, vr, gM, f, e, h.keep hb, fun x hx q => ?_⟩
  have := own_lt (h.it x hx).2.2 q
  omega
theorem TabOff.keep {w w' : World} {base gT n m gm : Nat} {l : List DCall} (h : TabOff w base gT n m l gm) (hb : Below w.heap.size w w') : TabOff w' base gT n m l gm := by
  obtain ⟨L, vr, gM, f, e, h, ho⟩ := h
  exact ⟨L, vr, gM, f, e, h.keep hb, ho⟩
/-- bytes of block gm are written -/
theorem TabOff.wrote {w w' : World} {base gT n m gm : Nat} {l : List DCall} (h : TabOff w base gT n m l gm) {xs : List Value} (hb : Blk w gm 5 xs) (hg : w.grownBy w' (some gm)) : TabOff w' base gT n m l gm := by
  obtain ⟨L, vr, gM, f, e, h, ho⟩ := h
  have hk := store_keepsT hg hb
  exact ⟨L, vr, gM, f, e, ⟨hk.blk h.tab (by decide), h.tabB, own_store h.row hb (by decide) hg, h.nodup, fun x hx => ⟨hk.blk (h.it x hx).1 (by decide), (h.it x hx).2.1, World.ownsRow.kept (h.it x hx).2.2 hg (.inr (ho x hx))⟩, h.map.store hb hg, h.mapB, h.hit, h.miss, h.keys, h.oks⟩, ho⟩

def BeginPostB (base gT n m : Nat) (l : List DCall) (k : DKey) (w : World) (e : Ending) (w' : World) : Prop :=
  ∃ v', e = .returned (.tuple #[.int .i64 (drcBegin n l k).1.1, v']) ∧ OwnBs w' w.heap.size 5 v' (drcBegin n l k).1.2 ∧ TabInv w' base gT n (m + 1) (drcBegin n l k).2 ∧ Below w.heap.size w w'
theorem beginB_hit (base gT n m : Nat) (l : List DCall) (k : DKey) (w : World) (h : TabInv w base gT n m l) (hb : base ≤ w.heap.size) (hk : k.Ok) (c : DCall) (hc : l.find? (fun c => decide (c.key = k)) = some c) (hl : c.reply.length ≤ 1099511627776) :
    Calls Try.prog 9 #[ptrV (some gT), k.val] w (BeginPostB base gT n m l k w) := by
  obtain ⟨L, vr, gM, f, rfl, h⟩ := h
  obtain ⟨x, hx, rfl, hxk⟩ := find_item hc
  have Hr := hid (show drcBegin n (L.map DIt.c) k = if x.c.done then ((3, x.c.reply), L.map DIt.c) else ((2, []), L.map DIt.c) by unfold drcBegin; rw [hc])
  obtain ⟨kl, hkl⟩ : ∃ kl, keyOf Try.prog 33 k.val = some kl := dkey_of k hk
  have hf : f k.val = some x.g := by rw [← hxk]; exact h.hit x hx
  have K1 := hid (h.keep (below_alloc w (.cells k.cells.toArray 33)))
  have hlook : ∀ q, (Instr.lookup 59 (.map (some gM)) k.val false).run Try.prog ((w.alloc (.cells k.cells.toArray 33)).drewN q) = .ok (ptrV (some x.g)) ((w.alloc (.cells k.cells.toArray 33)).drewN q) := fun q => by
    rw [(K1.out.map.drewN q).look dkeyed Try.underlying59 (ptrzero _) hkl, hf]
  obtain ⟨hxb, _, hxo⟩ := K1.out.it x hx
  have c5 : (w.alloc (.cells k.cells.toArray 33)).cell? ⟨x.g, 5, none⟩ = some (.bool x.c.done) := hxb.cell 5
  have c6 : (w.alloc (.cells k.cells.toArray 33)).cell? ⟨x.g, 6, none⟩ = some x.rv := hxb.cell 6
  have hc2 : (w.alloc (.cells k.cells.toArray 33)).cell? ⟨gT, 2, none⟩ = some (.map (some gM)) := K1.out.tab.cell 2
  have Hxo := hid hxo.bs
  obtain ⟨gx, hgx⟩ : ∃ g, x.g = g := ⟨_, rfl⟩
  rw [hgx] at c5 c6 hlook
  clear hxb hxo hkl hf hc hxk hgx hk
  obtain ⟨k1, k2, k3, k4, k5⟩ := k
  dsimp only [DKey.val, DKey.cells] at *
  cases hd : x.c.done with
  | true =>
    rw [hd] at c5
    have Hr2 := hid (show drcBegin n (L.map DIt.c) ⟨k1, k2, k3, k4, k5⟩ = ((3, x.c.reply), L.map DIt.c) by rw [Hr.out, hd]; rfl)
    have Hb := hid hb
    clear hd
    unfold ptrV at hlook ⊢
    go_enter Try.func9, Try.ntmps9
    go_upto_region 1 with (fail)
    go_quiet (fail)
    have Kq := hid (K1.out.drewN nq)
    have Hxq := hid (Hxo.out.drewN nq)
    have HBq := hid (below_drewN (below_alloc w (.cells #[.int .u32 (k1 : Int), .int .i64 k2, .int .u32 (k3 : Int), .int .u32 (k4 : Int), .int .u32 (k5 : Int)] 33)) nq)
    have c5q : ((w.alloc (.cells #[.int .u32 (k1 : Int), .int .i64 k2, .int .u32 (k3 : Int), .int .u32 (k4 : Int), .int .u32 (k5 : Int)] 33)).drewN nq).cell? ⟨gx, 5, none⟩ = some (.bool true) := c5
    have c6q : ((w.alloc (.cells #[.int .u32 (k1 : Int), .int .i64 k2, .int .u32 (k3 : Int), .int .u32 (k4 : Int), .int .u32 (k5 : Int)] 33)).drewN nq).cell? ⟨gx, 6, none⟩ = some x.rv := c6
    generalize (w.alloc (.cells #[.int .u32 (k1 : Int), .int .i64 k2, .int .u32 (k3 : Int), .int .u32 (k4 : Int), .int .u32 (k5 : Int)] 33)).drewN nq = wq at Kq Hxq HBq c5q c6q ⊢
    clear c5 c6 hc2 hlook
    go_wp2_with (go_at_call 17; refine (clone_any x.rv x.c.reply _ Hxq.out (by omega)).mono ?_; rintro e w2 ⟨v1, rfl, hown, hb1⟩; have Hown := hid hown; have Hb1 := hid hb1; clear hown hb1)
    go_ret2
    unfold BeginPostB
    rw [Hr2.out]
    have hsz := HBq.out.size
    exact ⟨_, rfl, Hown.out.mono hsz, TabInv.mono ⟨L, vr, gM, f, rfl, Kq.out.keep Hb1.out⟩ (by omega), HBq.out.trans (Hb1.out.mono (by omega))⟩
  | false =>
    rw [hd] at c5
    have Hr2 := hid (show drcBegin n (L.map DIt.c) ⟨k1, k2, k3, k4, k5⟩ = ((2, []), L.map DIt.c) by rw [Hr.out, hd]; rfl)
    have Hb := hid hb
    clear hd
    unfold ptrV at hlook ⊢
    go_enter Try.func9, Try.ntmps9
    go_upto_region 1 with (fail)
    go_quiet (fail)
    have Kq := hid (K1.out.drewN nq)
    have HBq := hid (below_drewN (below_alloc w (.cells #[.int .u32 (k1 : Int), .int .i64 k2, .int .u32 (k3 : Int), .int .u32 (k4 : Int), .int .u32 (k5 : Int)] 33)) nq)
    have c5q : ((w.alloc (.cells #[.int .u32 (k1 : Int), .int .i64 k2, .int .u32 (k3 : Int), .int .u32 (k4 : Int), .int .u32 (k5 : Int)] 33)).drewN nq).cell? ⟨gx, 5, none⟩ = some (.bool false) := c5
    generalize (w.alloc (.cells #[.int .u32 (k1 : Int), .int .i64 k2, .int .u32 (k3 : Int), .int .u32 (k4 : Int), .int .u32 (k5 : Int)] 33)).drewN nq = wq at Kq HBq c5q ⊢
    clear c5 c6 hc2 hlook
    go_wp2_with fail
    go_ret2
    unfold BeginPostB
    rw [Hr2.out]
    exact ⟨_, rfl, OwnBs.nil _ _ _, TabInv.mono ⟨L, vr, gM, f, rfl, Kq.out⟩ (by omega), HBq.out⟩

theorem beginB_at (base gT n m : Nat) (l l' : List DCall) (k : DKey) (kv : Value) (code : Int) (rep : List UInt8) (w : World) (hkv : kv = k.val) (hr : drcBegin n l k = ((code, rep), l')) (h : TabInv w base gT n m l) (hb : base ≤ w.heap.size) (hk : k.Ok) (hn2 : n ≤ 256) (hln : l.length ≤ n) (hm : m < 100000) (hrep : ∀ c ∈ l, c.reply.length ≤ 1099511627776) :
    Calls Try.prog 9 #[.pointer (some ⟨gT, 0, none⟩), kv] w fun e w' => ∃ v', e = .returned (.tuple #[.int .i64 code, v']) ∧ OwnBs w' w.heap.size 5 v' rep ∧ TabInv w' base gT n (m + 1) l' ∧ Below base w w' ∧ Spares w w' ∧ (rep = [] ∨ Below w.heap.size w w') := by
  cases hc : l.find? (fun c => decide (c.key = k)) with
  | some c =>
    subst hkv
    have := beginB_hit base gT n m l k w h hb hk c hc (hrep c (List.mem_of_find?_eq_some hc))
    unfold BeginPostB at this
    rw [hr] at this
    refine this.mono ?_
    rintro e w' ⟨v', h1, h2, h3, h4⟩
    exact ⟨v', h1, h2, h3, h4.mono hb, Below.spares h4, .inr h4⟩
  | none =>
    have h0 : rep = [] := by
      unfold drcBegin at hr
      rw [hc] at hr
      simp only at hr
      split at hr
      · split at hr
        all_goals (injection hr with hr; injection hr with _ hr; exact hr.symm)
      · injection hr with hr; injection hr with _ hr; exact hr.symm
    refine (begin_at base gT n m l l' k kv code rep w hkv hr h hb hk hn2 hln hm hrep).mono ?_
    rintro e w' ⟨v', h1, h2, h3, h4, h5⟩
    exact ⟨v', h1, h2, h3, h4, h5, .inl h0⟩

def EndPostO (base gT n m gm : Nat) (l : List DCall) (k : DKey) (r : List UInt8) (w : World) (e : Ending) (w' : World) : Prop :=
  e = .returned (.int .i64 (drcEnd l k r).2) ∧ TabOff w' base gT n m (drcEnd l k r).1 gm ∧ Below base w w' ∧ Spares w w'
theorem endO_any (base gT n m gm : Nat) (l : List DCall) (k : DKey) (v : Value) (r : List UInt8) (w : World) (h : TabOff w base gT n m l gm) (hgm : gm < w.heap.size) (hb : base ≤ w.heap.size) (hr : Bs w v r) (hl : r.length ≤ 1099511627776) :
    Calls Try.prog 12 #[ptrV (some gT), k.val, v] w (EndPostO base gT n m gm l k r w) := by
  obtain ⟨L, vr, gM, f, rfl, h, hoff⟩ := h
  have Hoff := hid hoff
  have Hgm := hid hgm
  clear hoff hgm
  have HR := hid hr
  have K1 := hid (h.keep (below_alloc w (.cells k.cells.toArray 33)))
  have hkey := Blk.new w 33 k.cells.toArray
  have eg : ∀ args w, (callFunc 21 args).run Try.prog w = .ok (.enter 21 args) w := enters_of Try.func21 (by kernel_rfl) rfl
  have hp : PredRead Try.prog 21 #[ptrV (some w.heap.size)] (L.map DIt.ptr) (endAt (L.map DIt.c) k) (w.alloc (.cells k.cells.toArray 33)) := by
    intro q i hi
    have hi' : i < L.length := by simpa using hi
    have hx := (K1.out.it L[i] (List.getElem_mem hi')).1
    have hc := end1_at L[i].g w.heap.size L[i].c.key k L[i].c.done _ rfl L[i].rv ((w.alloc (.cells k.cells.toArray 33)).drewN q) (hx.drewN q) (hkey.drewN q)
    have e1 : (L.map DIt.ptr)[i] = ptrV (some L[i].g) := by simp [DIt.ptr]
    have e2 : endAt (L.map DIt.c) k i = (decide (L[i].c.key = k) && !L[i].c.done) := by simp [endAt, hi']
    rw [e1, e2]
    refine hc.mono ?_
    rintro e w' ⟨rfl, q', rfl⟩
    exact ⟨rfl, q + q', by simp [World.drewN, Nat.add_assoc]⟩
  have hidx := idx_any 21 #[ptrV (some w.heap.size)] eg vr (L.map DIt.ptr) (endAt (L.map DIt.c) k) (w.alloc (.cells k.cells.toArray 33)) _ (RowN.of_own K1.out.row) hp
  have hc1 : (w.alloc (.cells k.cells.toArray 33)).cell? ⟨gT, 1, none⟩ = some vr := K1.out.tab.cell 1
  rw [List.length_map] at hidx
  have HI := hid hidx
  clear hidx hp eg hr
  obtain ⟨k1, k2, k3, k4, k5⟩ := k
  dsimp only [DKey.val, DKey.cells] at *
  cases ho : fidx (endAt (L.map DIt.c) ⟨k1, k2, k3, k4, k5⟩) L.length with
  | none =>
    rw [ho] at HI
    have Hr := hid (show drcEnd (L.map DIt.c) ⟨k1, k2, k3, k4, k5⟩ r = (L.map DIt.c, 2) by unfold drcEnd; rw [List.length_map, ho])
    clear ho
    unfold ptrV
    go_enter Try.func12, Try.ntmps12
    go_wp2_with (go_at_call 18; refine HI.out.mono ?_; rintro e w' ⟨rfl, q, rfl⟩)
    go_ret
    unfold EndPostO
    rw [Hr.out]
    exact ⟨rfl, ⟨L, vr, gM, f, rfl, K1.out.drewN q, Hoff.out⟩, (below_drewN (below_alloc w _) q).mono hb, Below.spares (below_drewN (below_alloc w _) q)⟩
  | some i =>
    rw [ho] at HI
    obtain ⟨hi, hpi⟩ := fidx_some ho
    have Hr := hid (show drcEnd (L.map DIt.c) ⟨k1, k2, k3, k4, k5⟩ r = ((L.map DIt.c).set i ⟨⟨k1, k2, k3, k4, k5⟩, true, r⟩, 0) by unfold drcEnd; rw [List.length_map, ho])
    have hik : L[i].c.key = ⟨k1, k2, k3, k4, k5⟩ := by
      simp [endAt, hi] at hpi
      exact hpi.1
    have Hik := hid hik
    clear ho hpi hik
    obtain ⟨_, A, cap, hv, q1, q2, hc⟩ := RowN.of_own K1.out.row
    rw [List.length_map] at hv
    obtain ⟨gr, off, rfl, hcr⟩ : ∃ gr off, A = some ⟨gr, off, none⟩ ∧ (w.alloc (.cells #[.int .u32 (k1 : Int), .int .i64 k2, .int .u32 (k3 : Int), .int .u32 (k4 : Int), .int .u32 (k5 : Int)] 33)).cell? ⟨gr, off + i, none⟩ = some (ptrV (some L[i].g)) := by
      rcases hc with h0 | ⟨gr, off, rfl, hc⟩
      · rw [List.length_map] at h0; omega
      · exact ⟨gr, off, rfl, hc i _ (by simp [hi, DIt.ptr])⟩
    subst hv
    obtain ⟨gi, hgi⟩ : ∃ g, L[i].g = g := ⟨_, rfl⟩
    rw [hgi] at hcr
    unfold ptrV at hcr
    have Hgi := hid hgi
    clear hc hgi q1 q2 hkey
    have hiI : (i : Int) < (L.length : Int) := by omega
    have hiN : ¬ (i : Int) < 0 := by omega
    unfold ptrV
    go_enter Try.func12, Try.ntmps12
    go_upto_region 4 with (go_at_call 18; refine HI.out.mono ?_; rintro e w' ⟨rfl, q, rfl⟩; unfold idxI)
    have Kq := hid (K1.out.drewN q)
    have HRq := hid ((HR.out.alloc (.cells #[.int .u32 (k1 : Int), .int .i64 k2, .int .u32 (k3 : Int), .int .u32 (k4 : Int), .int .u32 (k5 : Int)] 33)).drewN q)
    have HBq := hid (below_drewN (below_alloc w (.cells #[.int .u32 (k1 : Int), .int .i64 k2, .int .u32 (k3 : Int), .int .u32 (k4 : Int), .int .u32 (k5 : Int)] 33)) q)
    have hc1q : ((w.alloc (.cells #[.int .u32 (k1 : Int), .int .i64 k2, .int .u32 (k3 : Int), .int .u32 (k4 : Int), .int .u32 (k5 : Int)] 33)).drewN q).cell? ⟨gT, 1, none⟩ = some (.slice (some ⟨gr, off, none⟩) L.length cap) := hc1
    have hcrq : ((w.alloc (.cells #[.int .u32 (k1 : Int), .int .i64 k2, .int .u32 (k3 : Int), .int .u32 (k4 : Int), .int .u32 (k5 : Int)] 33)).drewN q).cell? ⟨gr, off + i, none⟩ = some (.pointer (some ⟨gi, 0, none⟩)) := hcr
    generalize (w.alloc (.cells #[.int .u32 (k1 : Int), .int .i64 k2, .int .u32 (k3 : Int), .int .u32 (k4 : Int), .int .u32 (k5 : Int)] 33)).drewN q = wq at Kq HRq HBq hc1q hcrq ⊢
    have hgb := (Kq.out.it L[i] (List.getElem_mem hi)).1
    rw [Hgi.out] at hgb
    have hne1 : gT ≠ gi := Kq.out.tab.ne hgb (by decide)
    have hne2 : gr ≠ gi := row_ne Kq.out.row hgb (by decide)
    have Hgb := hid hgb
    clear hc1 hcr HI hgb
    go_region_held3 (fun wr => wr.cell? ⟨gT, 1, none⟩ = some (.slice (some ⟨gr, off, none⟩) L.length cap) ∧ wr.cell? ⟨gr, off + i, none⟩ = some (.pointer (some ⟨gi, 0, none⟩))) (refine ⟨?_, ?_⟩ <;> (repeat (first | exact hc1q | exact hcrq | exact cell_below hb1q hc1q | exact cell_below hb1q hcrq | (with_reducible refine far_cell (by first | exact hne1 | exact hne2) ?_)))) (first
      | (go_at_call 17; refine (clone_any v r _ (by first | exact HRq.out | exact HRq.out.drew) (by omega)).mono ?_; rintro e w2 ⟨v1, rfl, hown, hb1⟩; obtain ⟨A1, cap1, rfl⟩ := slice_len hown.bs rfl; have hb1q : Below wq.heap.size wq w2 := (first_below hb1); have K2 := hid (Kq.out.keep hb1q); have hbk := (K2.out.it L[i] (List.getElem_mem hi)).1; rw [Hgi.out] at hbk; have c5 : w2.cell? ⟨gi, 5, none⟩ = _ := hbk.cell 5; have c6 : w2.cell? ⟨gi, 6, none⟩ = _ := hbk.cell 6; have z5 := hbk.frozen 5; have z6 := hbk.frozen 6; have Hbk := hid hbk; have Hown := hid (show OwnBs w2 wq.heap.size 5 _ _ from hown); have Hb1 := hid hb1q; clear hown hb1 hbk)
      | fail)
    all_goals
      go_wp2
      go_ret
      unfold EndPostO
      rw [Hr.out]
      have hg2 : w2.grownBy ((w2.setCell ⟨gi, 5, none⟩ (.bool true)).setCell ⟨gi, 6, none⟩ (.slice A1 r.length cap1)) (some gi) := grown_trans (grown_set _ _ _ _) (grown_set _ _ _ _)
      have hsz := HBq.out.size
      have hK2 : TabAt w2 base gT n m L (.slice (some ⟨gr, off, none⟩) L.length cap) gM f := Kq.out.keep Hb1.out
      have hfin := hK2.setCall i hi true r (.slice A1 r.length cap1) (by rw [Hgi.out]; exact hg2) (by rw [Hgi.out]; exact (Hbk.out.set_ 5 (.bool true)).set_ 6 (.slice A1 r.length cap1)) (ownBs_store (Hown.out.mono (Nat.le_trans hb hsz)) Hbk.out (by decide) hg2)
      refine ⟨rfl, ⟨_, _, _, _, ?_, hfin, fun x hx => ?_⟩, ?_, ?_⟩
      · rw [List.map_set, Hik.out]
      · rcases List.mem_or_eq_of_mem_set hx with hx | rfl
        · exact Hoff.out x hx
        · intro e
          have h1 := own_ge Hown.out e
          have h2 := Hgm.out
          omega
      · have hbg := (Kq.out.it L[i] (List.getElem_mem hi)).2.1
        rw [Hgi.out] at hbg
        exact below_own ((HBq.out.mono hb).trans (Hb1.out.mono (by omega))) hg2 hbg (by have := Hb1.out.size; omega)
      · exact (Below.spares HBq.out).trans ((Below.spares Hb1.out).trans (grown_spares hg2 Hbk.out (.inr (.inr rfl))))

theorem endO_at (base gT n m gm : Nat) (l l' : List DCall) (k : DKey) (kv v : Value) (r : List UInt8) (code : Int) (w : World) (hkv : kv = k.val) (hr0 : drcEnd l k r = (l', code)) (h : TabOff w base gT n m l gm) (hgm : gm < w.heap.size) (hb : base ≤ w.heap.size) (hr : Bs w v r) (hl : r.length ≤ 1099511627776) :
    Calls Try.prog 12 #[.pointer (some ⟨gT, 0, none⟩), kv, v] w fun e w' => e = .returned (.int .i64 code) ∧ TabOff w' base gT n m l' gm ∧ Below base w w' ∧ Spares w w' := by
  subst hkv
  have := endO_any base gT n m gm l k v r w h hgm hb hr hl
  unfold EndPostO at this
  rw [hr0] at this
  exact this
end Go.Proofs.Ytkgeccmpekclcaa
