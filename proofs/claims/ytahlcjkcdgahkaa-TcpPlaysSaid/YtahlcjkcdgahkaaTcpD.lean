/- A connection's segment. -/
import Derived.Test.YtahlcjkcdgahkaaTcpC
import Derived.Test.YtahlcjkcdgahkaaStoreG
namespace Go.Proofs.Ytahlcjkcdgahkaa
open Go Go.RowKit
attribute [local go_sem ↓] Go.wp_at_zero Go.wp_at_succ
set_option maxRecDepth 100000

theorem seginfo : (Try.prog.info? 30).map (·.size) = some 8 := by kernel_rfl
theorem keep4 {w w' : World} (hb : Below w.heap.size w w') {p0 p1 p2 p3 : Addr} {x0 x1 x2 x3 : Value} (h : w.cell? p0 = some x0 ∧ w.cell? p1 = some x1 ∧ w.cell? p2 = some x2 ∧ w.cell? p3 = some x3) :
    w'.cell? p0 = some x0 ∧ w'.cell? p1 = some x1 ∧ w'.cell? p2 = some x2 ∧ w'.cell? p3 = some x3 := by
  obtain ⟨h0, h1, h2, h3⟩ := h
  exact ⟨cell_below hb h0, cell_below hb h1, cell_below hb h2, cell_below hb h3⟩
def tSegment (c : TConn) (seq : Nat) (flags : Int) (data : List UInt8) : TSeg := ⟨c.src, c.dst, seq, c.inn.r, flags, 16384 - (c.inn.ready.length : Int), 0, data⟩
def SegPost (s : TSeg) (w : World) (e : Ending) (w' : World) : Prop := ∃ v', e = .returned (s.val v') ∧ OwnBs w' w.heap.size 5 v' s.data ∧ Below w.heap.size w w'
theorem ret_cell1' {P : Program} {fn : Func} {R : Ending → World → Prop} {a : Act} {w : World} {p : Tmp} {ty : TypeId} (h : fn.results = #[.cell p ty]) (g : Nat) (t : TypeId) (cs : List Value) (fs : Array Field)
    (hp : a.tmps.getD p undef = .pointer (some ⟨g, 0, none⟩)) (hg : Blk w g t cs) (hu : P.underlying ty = some (.struct fs)) (hi : (P.info? ty).map (·.size) = some cs.length)
    (hd : a.defers = []) (hR : R (.returned (.agg cs.toArray)) w) : bodyPost P fn R .ret a w :=
  bodyPost_ret (v := .agg cs.toArray) (results_cell_row h a.tmps w g t cs.toArray (0, 0) _ hp hg hu rfl (by simpa using hi)) hd hR
theorem lays_seg (s0 s1 s2 s3 s4 s5 s6 : Int) (A : Option Addr) (n c : Nat) : Lays Try.prog 30 #[.int .i64 s0, .int .i64 s1, .int .u32 s2, .int .u32 s3, .int .i64 s4, .int .i64 s5, .int .i64 s6, .slice A n c] := ⟨seginfo, by simp [Value.oneCell']⟩
theorem fold_seg (x y : Value) : Instr.storeAt 30 x y = storeG 30 x y := rfl
attribute [local go_sem ↓] fold_seg
attribute [local go_sem] storeG_run lays_seg
set_option maxHeartbeats 2000000 in
theorem segment_any (base g : Nat) (c : TConn) (m : Nat) (F : Nat → Prop) (seq : Nat) (flags : Int) (v : Value) (data : List UInt8) (w : World) (h : ConnInv w base g c m F) (hr : c.inn.ready.length ≤ 16384) (hd : Bs w v data) (hl : data.length ≤ 100000) :
    Calls Try.prog 41 #[.pointer (some ⟨g, 0, none⟩), .int .u32 (seq : Int), .int .i64 flags, v] w (SegPost (tSegment c seq flags data) w) := by
  obtain ⟨vr, gM, vb, f, h⟩ := h
  obtain ⟨n, hn⟩ : ∃ n, c.inn.ready.length = n := ⟨_, rfl⟩
  obtain ⟨A, cap, rfl⟩ := slice_len h.ready.bs hn
  obtain ⟨q, hq⟩ : ∃ n, data.length = n := ⟨_, rfl⟩
  have Hn := hid hn
  have Hq := hid hq
  have Hl := hid hl
  have HD := hid (hd.alloc (.cells #[.int .i64 0, .int .i64 0, .int .u32 0, .int .u32 0, .int .i64 0, .int .i64 0, .int .i64 0, .slice none 0 0] 30))
  have Hr := hid (show n ≤ 16384 by rw [← hn]; exact hr)
  have hc : w.cell? ⟨g, 0, none⟩ = some (.int .u32 (c.inn.r : Int)) ∧ w.cell? ⟨g, 1, none⟩ = some (.slice A n cap) ∧ w.cell? ⟨g, 16, none⟩ = some (.int .i64 c.src) ∧ w.cell? ⟨g, 17, none⟩ = some (.int .i64 c.dst) := ⟨h.tab.cell 0, h.tab.cell 1, h.tab.cell 16, h.tab.cell 17⟩
  have HC0 := hid hc
  have HC := hid (keep4 (below_alloc w (.cells #[.int .i64 0, .int .i64 0, .int .u32 0, .int .u32 0, .int .i64 0, .int .i64 0, .int .i64 0, .slice none 0 0] 30)) hc)
  have HW := hid (below_alloc w (.cells #[.int .i64 0, .int .i64 0, .int .u32 0, .int .u32 0, .int .i64 0, .int .i64 0, .int .i64 0, .slice none 0 0] 30))
  have Bk := hid (Blk.new w 30 #[.int .i64 0, .int .i64 0, .int .u32 0, .int .u32 0, .int .i64 0, .int .i64 0, .int .i64 0, .slice none 0 0])
  clear h hn hq hr hd hl hc
  go_enter Try.func41, Try.ntmps41
  go_upto_region 1 with fail
  generalize w.alloc (.cells #[.int .i64 0, .int .i64 0, .int .u32 0, .int .u32 0, .int .i64 0, .int .i64 0, .int .i64 0, .slice none 0 0] 30) = wz at *
  go_region_held3 (fun wy => wy.cell? ⟨g, 0, none⟩ = some (.int .u32 (c.inn.r : Int)) ∧ wy.cell? ⟨g, 1, none⟩ = some (.slice A n cap) ∧ wy.cell? ⟨g, 16, none⟩ = some (.int .i64 c.src) ∧ wy.cell? ⟨g, 17, none⟩ = some (.int .i64 c.dst)) (first | exact HS3.out | exact keep4 Hb2.out HC.out | exact keep4 (Hb2.out.drew) HC.out | exact keep4 (below_drew _) HC.out | exact HC.out) (first
    | (go_at_call 45; (with_reducible refine (window_any g A n cap _ (by first | exact HC.out.2.1 | exact cell_below Hb2.out HC.out.2.1 | exact cell_below (below_drew _) HC.out.2.1) Hr.out).mono ?_); rintro e w' ⟨rfl, rfl⟩)
    | (go_at_call 56; (with_reducible refine (clone_any v data _ (by first | exact HD.out | exact HD.out.drew) (by have := Hl.out; omega)).mono ?_); rintro e w2 ⟨v2, rfl, hown, hb1⟩; obtain ⟨A2, cap2, rfl⟩ := slice_len hown.bs Hq.out; have Hb2 := hid (show Below wz.heap.size wz w2 from by first | exact hb1 | exact (below_drew wz).trans hb1); have O2 := hid hown; have hroom : RoomFor w2 w.heap.size 8 := (Bk.out.keep Hb2.out).room; have HS3 := hid (keep4 (below_own (HW.out.trans (Hb2.out.mono HW.out.size)) (grown_setRow w2 w.heap.size #[.int .i64 c.src, .int .i64 c.dst, .int .u32 (seq : Int), .int .u32 (c.inn.r : Int), .int .i64 flags, .int .i64 (16384 - (n : Int)), .int .i64 0, .slice A2 q cap2]) (Nat.le_refl _) (HW.out.trans (Hb2.out.mono HW.out.size)).size) HC0.out); clear hown hb1)
    | fail)
  all_goals
    go_wp2_with fail
    refine ret_cell1' rfl _ _ _ _ rfl ((Bk.out.keep Hb2.out).setRow #[.int .i64 c.src, .int .i64 c.dst, .int .u32 (seq : Int), .int .u32 (c.inn.r : Int), .int .i64 flags, .int .i64 (16384 - (n : Int)), .int .i64 0, .slice A2 q cap2]) Try.underlying30 seginfo rfl ?_
    unfold SegPost tSegment
    rw [Hn.out]
    have hb3 := HW.out.trans (Hb2.out.mono HW.out.size)
    exact ⟨_, rfl, (ownBs_store O2.out (Bk.out.keep Hb2.out) (by decide) (grown_setRow w2 w.heap.size #[.int .i64 c.src, .int .i64 c.dst, .int .u32 (seq : Int), .int .u32 (c.inn.r : Int), .int .i64 flags, .int .i64 (16384 - (n : Int)), .int .i64 0, .slice A2 q cap2])).mono HW.out.size, below_own hb3 (grown_setRow _ _ _) (Nat.le_refl _) hb3.size⟩
end Go.Proofs.Ytahlcjkcdgahkaa
