/- A packet is added: where it does not wait. -/
import Derived.Test.YtbjiicnagfeciaaPtG
import Derived.Test.YtbjiicnagfeciaaPtD
import Derived.Test.YtbjiicnagfeciaaIpHelp
import Derived.Deep.CutRange
namespace Go.Proofs.Ytbjiicnagfeciaa
open Go Go.RowKit
attribute [local go_sem ↓] Go.wp_at_zero Go.wp_at_succ
set_option maxRecDepth 100000

def AddPost (base g : Nat) (l : List Wt) (m : Nat) (F : Nat → Prop) (p : Pk) (w : World) (e : Ending) (w' : World) : Prop :=
  ∃ v', e = .returned (.tuple #[.agg (pkCells (pAdd l p).2.1 v').toArray, .int .i64 (pAdd l p).2.2]) ∧ OwnBs w' w.heap.size 5 v' (pAdd l p).2.1.body ∧
    ∃ F', PtInv w' base g (pAdd l p).1 (m + 1) F' ∧ Frame F w w' ∧ ∀ k, F' k → F k ∨ w.heap.size ≤ k

theorem PtInv.mono {w : World} {base base' g : Nat} {l : List Wt} {m m' : Nat} {F : Nat → Prop} (h : PtInv w base g l m F) (hb : base' ≤ base) (hm : m ≤ m') : PtInv w base' g l m' F := by
  obtain ⟨L, vr, gM, f, e, h⟩ := h
  exact ⟨L, vr, gM, f, e, h.tab, h.row.mono hb, h.map.mono hm, fun x hx => (h.it x hx).mono hb, h.apart, h.hit, h.miss, h.ok, fun x hx => Nat.le_trans (h.few x hx) hm, h.fg, h.fM, h.fr, fun k hk => ⟨Nat.le_trans hb (h.flt k hk).1, (h.flt k hk).2⟩⟩

set_option maxHeartbeats 2000000 in
theorem add_whole (base g : Nat) (l : List Wt) (m : Nat) (F : Nat → Prop) (v : Value) (p : Pk) (w : World) (h : PtInv w base g l m F) (hb : Bs w v p.body) (hl : p.body.length ≤ 1099511627776) (hw : p.off = 0 ∧ p.more = false) :
    Calls Try.prog 21 #[.pointer (some ⟨g, 0, none⟩), .agg (pkCells p v).toArray] w (AddPost base g l m F p w) := by
  have Hp := hid (show pAdd l p = (l, { p with whole := true }, 0) by unfold pAdd; rw [if_pos hw])
  have H := hid h
  obtain ⟨src, dst, proto, id, off, more, whole, ttl, body⟩ := p
  obtain ⟨rfl, rfl⟩ := hw
  obtain ⟨_, A, cap, rfl, k1, k2, _⟩ := (show RowN w 1 v body.length (body.map u8v) from hb)
  have HB := hid (show Bs w (.slice A body.length cap) body from hb)
  clear h hb k1 k2
  dsimp only [pkCells]
  go_enter Try.func21, Try.ntmps21
  go_wp2_with (first
    | (go_at_call 30; refine (clone_any _ body _ ((HB.out.alloc _).alloc _) (by omega)).mono ?_; rintro e w1 ⟨v1, rfl, hown, hb1⟩; obtain ⟨A1, cap1, rfl⟩ := slice_len hown.bs rfl; have hpb := ((Blk.new w 25 #[.int .u32 (src : Int), .int .u32 (dst : Int), .int .i64 proto, .int .i64 id, .int .i64 0, .bool false, .bool whole, .int .i64 ttl, .slice A body.length cap]).alloc (.cells #[.int .u32 0, .int .u32 0, .int .i64 0, .int .i64 0, .int .i64 0, .bool false, .bool false, .int .i64 0, .slice none 0 0] 25)).keep hb1; have hrb := (Blk.new (w.alloc (.cells #[.int .u32 (src : Int), .int .u32 (dst : Int), .int .i64 proto, .int .i64 id, .int .i64 0, .bool false, .bool whole, .int .i64 ttl, .slice A body.length cap] 25)) 25 #[.int .u32 0, .int .u32 0, .int .i64 0, .int .i64 0, .int .i64 0, .bool false, .bool false, .int .i64 0, .slice none 0 0]).keep hb1; rw [World.size_alloc] at hrb; have Hb1 := hid ((below_alloc' (below_alloc w (.cells #[.int .u32 (src : Int), .int .u32 (dst : Int), .int .i64 proto, .int .i64 id, .int .i64 0, .bool false, .bool whole, .int .i64 ttl, .slice A body.length cap] 25)) (.cells #[.int .u32 0, .int .u32 0, .int .i64 0, .int .i64 0, .int .i64 0, .bool false, .bool false, .int .i64 0, .slice none 0 0] 25)).trans (hb1.mono (by simp; omega))); have Hsz := hid (show w.heap.size + 2 ≤ w1.heap.size from by have := hb1.size; simpa using this); have Hown := hid (show OwnBs w1 (w.heap.size + 2) 5 (.slice A1 body.length cap1) body from hown.mono (by simp)); have Hpb := hid hpb; have Hrb := hid hrb; have q4 : w1.cell? ⟨w.heap.size, 4, none⟩ = some (.int .i64 0) := hpb.cell 4; have q5 : w1.cell? ⟨w.heap.size, 5, none⟩ = some (.bool false) := hpb.cell 5; have q6 : w1.cell? ⟨w.heap.size, 6, none⟩ = some (.bool whole) := hpb.cell 6; have q8 : w1.cell? ⟨w.heap.size, 8, none⟩ = some (.slice A body.length cap) := hpb.cell 8; have z6 := hpb.frozen 6; have z8 := hpb.frozen 8; clear hown hb1 hpb hrb)
    | ((with_reducible show wpList _ _ _ (Oper.mk (some 23) _ _ _ _ _ :: _) _ _); refine wpList_loadBlk rfl _ _ rfl _ rfl _ _ _ ((Hpb.out.set_ 8 _).set_ 6 _) Try.underlying25 pkinfo ?_)
    | ((with_reducible show wpList _ _ _ (Oper.mk none _ _ _ _ _ :: _) _ _); refine wpList_storeBlk rfl _ _ _ rfl _ _ rfl rfl _ _ ((Hrb.out.far (by simp) _).far (by simp) _) pkinfo rfl rfl ?_; intro w9 hblk9 hg9 hsz9; have Hblk9 := hid hblk9; have Hg9 := hid hg9; clear hblk9 hg9 hsz9)
    | fail)
  refine ret_cell2 rfl (w.heap.size + 1) 25 _ _ rfl Hblk9.out Try.underlying25 pkinfo _ rfl rfl ?_
  unfold AddPost
  rw [Hp.out]
  have hg8 := grown_trans (grown_set w1 w.heap.size 8 (.slice A1 body.length cap1)) (grown_set _ w.heap.size 6 (.bool true))
  have hb8 : Below w.heap.size w _ := below_own Hb1.out hg8 (Nat.le_refl _) (by have := Hsz.out; omega)
  have hb9 : Below w.heap.size w w9 := below_own hb8 Hg9.out (by omega) hb8.size
  have hpb8 := (Hpb.out.set_ 8 (.slice A1 body.length cap1)).set_ 6 (.bool true)
  have hown8 := ownBs_store Hown.out Hpb.out (by decide) hg8
  exact ⟨.slice A1 body.length cap1, rfl, (ownBs_store hown8 ((Hrb.out.far (by simp) _).far (by simp) _) (by decide) Hg9.out).mono (by omega), F, (H.out.keep hb9).mono (Nat.le_refl _) (Nat.le_succ m), Below.frameF hb9 F, fun k hk => .inl hk⟩

set_option maxHeartbeats 2000000 in
theorem add_wrong (base g : Nat) (l : List Wt) (m : Nat) (F : Nat → Prop) (v : Value) (p : Pk) (w : World) (h : PtInv w base g l m F) (hb : Bs w v p.body) (hl : p.body.length ≤ 1099511627776) (hw : ¬ (p.off = 0 ∧ p.more = false)) (hwr : pWrong p = true) :
    Calls Try.prog 21 #[.pointer (some ⟨g, 0, none⟩), .agg (pkCells p v).toArray] w (AddPost base g l m F p w) := by
  have Hp := hid (show pAdd l p = (l, pkZero, 14) by unfold pAdd; rw [if_neg hw, if_pos hwr])
  have H := hid h
  obtain ⟨src, dst, proto, id, off, more, whole, ttl, body⟩ := p
  have Hwr := hid hwr
  obtain ⟨_, A, cap, rfl, k1, k2, _⟩ := (show RowN w 1 v body.length (body.map u8v) from hb)
  have HB := hid (show Bs w (.slice A body.length cap) body from hb)
  have hc : (off == 0) = false ∨ (off == 0) = true ∧ more = true := by
    by_cases z : off = 0
    · exact .inr ⟨by simp [z], by cases more; exact absurd ⟨z, rfl⟩ hw; rfl⟩
    · exact .inl (by simpa using z)
  clear h hb k1 k2 hw hwr
  dsimp only [pkCells]
  go_enter Try.func21, Try.ntmps21
  go_upto_region 2 with (first | (go_at_call 30; refine (clone_any _ body _ ((HB.out.alloc _).alloc _) (by omega)).mono ?_; rintro e w1 ⟨v1, rfl, hown, hb1⟩; obtain ⟨A1, cap1, rfl⟩ := slice_len hown.bs rfl; have hpb := ((Blk.new w 25 #[.int .u32 (src : Int), .int .u32 (dst : Int), .int .i64 proto, .int .i64 id, .int .i64 off, .bool more, .bool whole, .int .i64 ttl, .slice A body.length cap]).alloc (.cells #[.int .u32 0, .int .u32 0, .int .i64 0, .int .i64 0, .int .i64 0, .bool false, .bool false, .int .i64 0, .slice none 0 0] 25)).keep hb1; have hrb := (Blk.new (w.alloc (.cells #[.int .u32 (src : Int), .int .u32 (dst : Int), .int .i64 proto, .int .i64 id, .int .i64 off, .bool more, .bool whole, .int .i64 ttl, .slice A body.length cap] 25)) 25 #[.int .u32 0, .int .u32 0, .int .i64 0, .int .i64 0, .int .i64 0, .bool false, .bool false, .int .i64 0, .slice none 0 0]).keep hb1; rw [World.size_alloc] at hrb; have Hb1 := hid ((below_alloc' (below_alloc w (.cells #[.int .u32 (src : Int), .int .u32 (dst : Int), .int .i64 proto, .int .i64 id, .int .i64 off, .bool more, .bool whole, .int .i64 ttl, .slice A body.length cap] 25)) (.cells #[.int .u32 0, .int .u32 0, .int .i64 0, .int .i64 0, .int .i64 0, .bool false, .bool false, .int .i64 0, .slice none 0 0] 25)).trans (hb1.mono (by simp; omega))); have Hsz := hid (show w.heap.size + 2 ≤ w1.heap.size from by have := hb1.size; simpa using this); have Hown := hid (show OwnBs w1 (w.heap.size + 2) 5 (.slice A1 body.length cap1) body from hown.mono (by simp)); have Hpb := hid hpb; have Hrb := hid hrb; have q4 : w1.cell? ⟨w.heap.size, 4, none⟩ = some (.int .i64 off) := hpb.cell 4; have q5 : w1.cell? ⟨w.heap.size, 5, none⟩ = some (.bool more) := hpb.cell 5; have q6 : w1.cell? ⟨w.heap.size, 6, none⟩ = some (.bool whole) := hpb.cell 6; have q8 : w1.cell? ⟨w.heap.size, 8, none⟩ = some (.slice A body.length cap) := hpb.cell 8; have z6 := hpb.frozen 6; have z8 := hpb.frozen 8; clear hown hb1 hpb hrb) | fail)
  have hpb8 := Hpb.out.set_ 8 (.slice A1 body.length cap1)
  have hrb8 := Hrb.out.far (p := ⟨w.heap.size, 8, none⟩) (by simp) (.slice A1 body.length cap1)
  have hg8 := grown_set w1 w.heap.size 8 (.slice A1 body.length cap1)
  have Hown8 := hid (ownBs_store Hown.out Hpb.out (by decide) hg8)
  have Hb8 := hid (show Below w.heap.size w _ from below_own Hb1.out hg8 (Nat.le_refl _) (by have := Hsz.out; omega))
  have Hs8 := hid (show w.heap.size + 2 ≤ (w1.setCell ⟨w.heap.size, 8, none⟩ (.slice A1 body.length cap1)).heap.size from Nat.le_trans Hsz.out hg8.size)
  have r4 : (w1.setCell ⟨w.heap.size, 8, none⟩ (.slice A1 body.length cap1)).cell? ⟨w.heap.size, 4, none⟩ = some (.int .i64 off) := hpb8.cell 4
  have r5 : (w1.setCell ⟨w.heap.size, 8, none⟩ (.slice A1 body.length cap1)).cell? ⟨w.heap.size, 5, none⟩ = some (.bool more) := hpb8.cell 5
  have Hpb8 := hid hpb8
  have Hrb8 := hid hrb8
  clear hg8 hpb8 hrb8 q4 q5 q6 q8 z6 z8 Hpb Hrb Hown Hb1 Hsz
  generalize w1.setCell ⟨w.heap.size, 8, none⟩ (.slice A1 body.length cap1) = w8 at *
  go_cut [21] from 14 to 21 (fun s21 wx => s21 = .bool false ∧ wx = w8)
  case first =>
    rcases hc with hc | ⟨hc, rfl⟩
    all_goals
      go_wp2_with fail
      go_meet
      case rel => exact ⟨rfl, rfl⟩
  case rest =>
  obtain ⟨rfl, rfl⟩ := hcut
  have HW := fun wx (y : Bs wx (.slice A1 body.length cap1) body) => wrong_any (.slice A1 body.length cap1) ⟨src, dst, proto, id, off, more, whole, ttl, body⟩ wx y
  simp only [Hwr.out] at HW
  dsimp only [pkCells] at HW
  go_wp2_with (first
      | ((with_reducible show wpList _ _ _ (Oper.mk (some 24) _ _ _ _ _ :: _) _ _); refine wpList_loadBlk rfl _ _ rfl _ rfl _ _ _ Hpb8.out Try.underlying25 pkinfo ?_)
      | (go_at_call 36; (with_reducible refine (HW _ Hown8.out.bs).mono ?_); rintro e w2 ⟨rfl, hb2⟩; have Hb2 := hid hb2; clear hb2)
      | ((with_reducible show wpList _ _ _ (Oper.mk none _ _ _ _ _ :: _) _ _); refine wpList_storeBlk rfl _ _ _ rfl _ _ rfl rfl _ _ (Hrb8.out.keep Hb2.out) pkinfo rfl rfl ?_; intro w9 hblk9 hg9 hsz9; have Hblk9 := hid hblk9; have Hg9 := hid hg9; clear hblk9 hg9 hsz9)
      | fail)
  refine ret_cell2 rfl (w.heap.size + 1) 25 _ _ rfl Hblk9.out Try.underlying25 pkinfo _ rfl rfl ?_
  unfold AddPost
  rw [Hp.out]
  have hb9 : Below w.heap.size w w9 := below_own (Hb8.out.trans (Hb2.out.mono Hb8.out.size)) Hg9.out (by omega) (Nat.le_trans Hb8.out.size Hb2.out.size)
  exact ⟨.slice none 0 0, rfl, OwnBs.nil _ _ _, F, (H.out.keep hb9).mono (Nat.le_refl _) (Nat.le_succ m), Below.frameF hb9 F, fun k hk => .inl hk⟩
end Go.Proofs.Ytbjiicnagfeciaa
