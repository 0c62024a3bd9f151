/- The document's Add: where it does not wait. -/
import Derived.Test.YtbjiicnagfeciaaRPtN
import Derived.Deep.CutRange
namespace Go.Proofs.Ytbjiicnagfeciaa
open Go Go.RowKit
attribute [local go_sem ↓] Go.wp_at_zero Go.wp_at_succ
set_option maxRecDepth 100000

def RAddPost (base g : Nat) (clock : Int) (l : List Wt) (m : Nat) (F : Nat → Prop) (p : Pk) (w : World) (e : Ending) (w' : World) : Prop :=
  ∃ v', e = .returned (.tuple #[.agg (pkCells (pAdd l p).2.1 v').toArray, .int .i64 (pAdd l p).2.2]) ∧ OwnBs w' w.heap.size 5 v' (pAdd l p).2.1.body ∧
    ∃ F', RPt w' base g clock (pAdd l p).1 (m + 1) F' ∧ Frame F w w' ∧ ∀ k, F' k → F k ∨ w.heap.size ≤ k
theorem RPt.more {w : World} {base g : Nat} {clock : Int} {l : List Wt} {m : Nat} {F : Nat → Prop} (h : RPt w base g clock l m F) : RPt w base g clock l (m + 1) F := by
  obtain ⟨L, vr, e, h⟩ := h
  exact ⟨L, vr, e, h.tab, h.row, h.it, h.apart, h.ok, fun x hx => Nat.le_succ_of_le (h.few x hx), h.fg, h.fr, h.flt⟩

set_option maxHeartbeats 2000000 in
theorem radd_whole (base g : Nat) (clock : Int) (l : List Wt) (m : Nat) (F : Nat → Prop) (v : Value) (p : Pk) (w : World) (h : RPt w base g clock l m F) (hb : Bs w v p.body) (hl : p.body.length ≤ 1099511627776) (hw : p.off = 0 ∧ p.more = false) :
    Calls Try.prog 28 #[.pointer (some ⟨g, 0, none⟩), .agg (pkCells p v).toArray] w (RAddPost base g clock l m F p w) := by
  have Hp := hid (show pAdd l p = (l, { p with whole := true }, 0) by unfold pAdd; rw [if_pos hw])
  have H := hid h
  obtain ⟨src, dst, proto, id, off, more, whole, ttl, body⟩ := p
  obtain ⟨rfl, rfl⟩ := hw
  obtain ⟨_, A, cap, rfl, k1, k2, _⟩ := (show RowN w 1 v body.length (body.map u8v) from hb)
  have HB := hid (show Bs w (.slice A body.length cap) body from hb)
  have hblkp := (Blk.new w 35 #[.int .u32 (src : Int), .int .u32 (dst : Int), .int .i64 proto, .int .i64 id, .int .i64 0, .bool false, .bool whole, .int .i64 ttl, .slice A body.length cap]).alloc (.cells #[.int .u32 0, .int .u32 0, .int .i64 0, .int .i64 0, .int .i64 0, .bool false, .bool false, .int .i64 0, .slice none 0 0] 35)
  have hblkr := Blk.new (w.alloc (.cells #[.int .u32 (src : Int), .int .u32 (dst : Int), .int .i64 proto, .int .i64 id, .int .i64 0, .bool false, .bool whole, .int .i64 ttl, .slice A body.length cap] 35)) 35 #[.int .u32 0, .int .u32 0, .int .i64 0, .int .i64 0, .int .i64 0, .bool false, .bool false, .int .i64 0, .slice none 0 0]
  rw [World.size_alloc] at hblkr
  have Hblkp := hid hblkp
  have Hblkr := hid hblkr
  have HB2 := hid ((HB.out.alloc (.cells #[.int .u32 (src : Int), .int .u32 (dst : Int), .int .i64 proto, .int .i64 id, .int .i64 0, .bool false, .bool whole, .int .i64 ttl, .slice A body.length cap] 35)).alloc (.cells #[.int .u32 0, .int .u32 0, .int .i64 0, .int .i64 0, .int .i64 0, .bool false, .bool false, .int .i64 0, .slice none 0 0] 35))
  have Hb0 := hid (below_alloc' (below_alloc w (.cells #[.int .u32 (src : Int), .int .u32 (dst : Int), .int .i64 proto, .int .i64 id, .int .i64 0, .bool false, .bool whole, .int .i64 ttl, .slice A body.length cap] 35)) (.cells #[.int .u32 0, .int .u32 0, .int .i64 0, .int .i64 0, .int .i64 0, .bool false, .bool false, .int .i64 0, .slice none 0 0] 35))
  have HT := fun wx (y : Bs wx (.slice A body.length cap) body) => rtwin_any (.slice A body.length cap) ⟨src, dst, proto, id, 0, false, whole, ttl, body⟩ 0 (.slice A body.length cap) body false wx y y hl
  dsimp only [pkCells, twinOf] at HT
  have HT := hid HT
  clear h hb k1 k2 hblkp hblkr
  dsimp only [pkCells]
  go_enter Try.func28, Try.ntmps28
  go_wp2_with (first
    | ((with_reducible show wpList _ _ _ (Oper.mk (some 21) _ _ _ _ _ :: _) _ _); refine wpList_loadBlk rfl _ _ rfl _ rfl _ _ _ Hblkp.out Try.underlying35 rpkinfo ?_)
    | (go_at_call 32; refine (HT.out _ HB2.out).mono ?_; rintro e w1 ⟨v1, rfl, hown, hb1⟩; obtain ⟨A1, cap1, rfl⟩ := slice_len hown.bs rfl; have Hown := hid hown; have Hb1 := hid hb1; clear hown hb1)
    | ((with_reducible show wpList _ _ _ (Oper.mk none _ _ _ _ _ :: _) _ _); refine wpList_storeBlk rfl _ _ _ rfl _ _ rfl rfl _ _ (Hblkr.out.keep Hb1.out) rpkinfo rfl rfl ?_; intro w9 hblk9 hg9 hsz9; have Hblk9 := hid hblk9; have Hg9 := hid hg9; clear hblk9 hg9 hsz9)
    | fail)
  refine ret_cell2 rfl (w.heap.size + 1) 35 _ _ rfl Hblk9.out Try.underlying35 rpkinfo _ rfl rfl ?_
  unfold RAddPost
  rw [Hp.out]
  have hb8 : Below w.heap.size w w1 := Hb0.out.trans (Hb1.out.mono Hb0.out.size)
  have hb9 : Below w.heap.size w w9 := below_own hb8 Hg9.out (by omega) hb8.size
  exact ⟨.slice A1 body.length cap1, rfl, (ownBs_store Hown.out (Hblkr.out.keep Hb1.out) (by decide) Hg9.out).mono Hb0.out.size, F, (H.out.keep hb9).more, Below.frameF hb9 F, fun k hk => .inl hk⟩
end Go.Proofs.Ytbjiicnagfeciaa
