/- Contract of the document's twin. -/
import Derived.Test.YtbjiicnagfeciaaIpHelp
namespace Go.Proofs.Ytbjiicnagfeciaa
open Go Go.RowKit
set_option maxRecDepth 100000

def twinOf (p : Pk) (off : Int) (more : Bool) (bs : List UInt8) : Pk := { p with off := off, more := more, whole := decide (off = 0) && !more, body := bs }

theorem rtwin_any (v : Value) (p : Pk) (off' : Int) (vb : Value) (bs : List UInt8) (more' : Bool) (w : World) (h0 : Bs w v p.body) (h : Bs w vb bs) (hl : bs.length ≤ 1099511627776) :
    Calls Try.prog 32 #[.agg (pkCells p v).toArray, .int .i64 off', vb, .bool more'] w fun e w' => ∃ v', e = .returned (.agg (pkCells (twinOf p off' more' bs) v').toArray) ∧ OwnBs w' w.heap.size 5 v' bs ∧ Below w.heap.size w w' := by
  obtain ⟨src, dst, proto, id, off, more, whole, ttl, body⟩ := p
  have Hb := hid h
  obtain ⟨A, cap, rfl, _, _, _⟩ := h0.cells
  obtain ⟨A2, cap2, rfl, _, _, _⟩ := h.cells
  clear h h0
  obtain ⟨wh, hwh⟩ : ∃ b, (decide (off' = 0) && !more') = b := ⟨_, rfl⟩
  dsimp only [pkCells, twinOf]
  rw [hwh]
  by_cases hz : off' = 0
  · subst hz
    cases more'
    · obtain rfl : wh = true := by simpa using hwh.symm
      clear hwh
      go_enter Try.func32, Try.ntmps32
      go_wp2_with (first | ((with_reducible show wpList _ _ _ (Oper.mk (some 24) _ _ _ _ _ :: _) _ _); refine wpList_app8 _ rfl _ _ 23 rfl (w.heap.size + 3) 5 u8ok (.slice (some ⟨w.heap.size + 3, 0, none⟩) 0 0) [] rfl (ownBs_litNil (by simp) (Nat.le_refl _)) _ bs rfl ((((Hb.out.alloc _).alloc _).alloc _).alloc _) (by simp; omega) (by simp) ?_; intro v1 w1 hown1 hb1 hg1 hat1; clear hg1 hat1; rw [List.nil_append] at hown1; have hbp := ((Blk.new _ _ _).alloc _).below hb1 (by simp); have hbr := (((Blk.new _ _ _).alloc _).alloc _).below hb1 (by simp); simp only [World.size_alloc] at hbp hbr; have hc8 := hbp.cell 8; have hf8 := hbp.frozen 8; have Hbp := hid hbp; have Hbr := hid hbr; have Hb1 := hid ((below_alloc' (below_alloc' (below_alloc' (below_alloc w _) _) _) _).trans (hb1.mono (by omega))); have Hown := hid hown1; obtain ⟨A1, cap1, rfl, _, _, _⟩ := hown1.bs.cells; clear hown1 hb1 hbp hbr) | ((with_reducible show wpList _ _ _ (Oper.mk (some 26) _ _ _ _ _ :: _) _ _); refine wpList_loadBlk rfl _ _ rfl _ rfl _ _ _ (Hbp.out.set_ 8 _) Try.underlying35 rpkinfo ?_) | ((with_reducible show wpList _ _ _ (Oper.mk none _ _ _ _ _ :: _) _ _); refine wpList_storeBlk rfl _ _ _ rfl _ _ rfl rfl _ _ (Hbr.out.far (by simp <;> omega) _) rpkinfo rfl rfl ?_; intro w9 hblk9 hg9 hsz9))
      refine ret_cell1 rfl _ _ _ _ rfl hblk9 Try.underlying35 rpkinfo rfl ?_; have hg8 := grown_set w1 (w.heap.size + 1 + 1) 8 (.slice A1 bs.length cap1); have hb8 := below_own Hb1.out hg8 (by omega) Hb1.out.size; exact ⟨_, rfl, (ownBs_store (ownBs_store Hown.out Hbp.out (by decide) hg8) (Hbr.out.far (by simp <;> omega) _) (by decide) hg9).mono (by omega), below_own hb8 hg9 (by omega) hb8.size⟩
    · obtain rfl : wh = false := by simpa using hwh.symm
      clear hwh
      go_enter Try.func32, Try.ntmps32
      go_wp2_with (first | ((with_reducible show wpList _ _ _ (Oper.mk (some 24) _ _ _ _ _ :: _) _ _); refine wpList_app8 _ rfl _ _ 23 rfl (w.heap.size + 3) 5 u8ok (.slice (some ⟨w.heap.size + 3, 0, none⟩) 0 0) [] rfl (ownBs_litNil (by simp) (Nat.le_refl _)) _ bs rfl ((((Hb.out.alloc _).alloc _).alloc _).alloc _) (by simp; omega) (by simp) ?_; intro v1 w1 hown1 hb1 hg1 hat1; clear hg1 hat1; rw [List.nil_append] at hown1; have hbp := ((Blk.new _ _ _).alloc _).below hb1 (by simp); have hbr := (((Blk.new _ _ _).alloc _).alloc _).below hb1 (by simp); simp only [World.size_alloc] at hbp hbr; have hc8 := hbp.cell 8; have hf8 := hbp.frozen 8; have Hbp := hid hbp; have Hbr := hid hbr; have Hb1 := hid ((below_alloc' (below_alloc' (below_alloc' (below_alloc w _) _) _) _).trans (hb1.mono (by omega))); have Hown := hid hown1; obtain ⟨A1, cap1, rfl, _, _, _⟩ := hown1.bs.cells; clear hown1 hb1 hbp hbr) | ((with_reducible show wpList _ _ _ (Oper.mk (some 26) _ _ _ _ _ :: _) _ _); refine wpList_loadBlk rfl _ _ rfl _ rfl _ _ _ (Hbp.out.set_ 8 _) Try.underlying35 rpkinfo ?_) | ((with_reducible show wpList _ _ _ (Oper.mk none _ _ _ _ _ :: _) _ _); refine wpList_storeBlk rfl _ _ _ rfl _ _ rfl rfl _ _ (Hbr.out.far (by simp <;> omega) _) rpkinfo rfl rfl ?_; intro w9 hblk9 hg9 hsz9))
      refine ret_cell1 rfl _ _ _ _ rfl hblk9 Try.underlying35 rpkinfo rfl ?_; have hg8 := grown_set w1 (w.heap.size + 1 + 1) 8 (.slice A1 bs.length cap1); have hb8 := below_own Hb1.out hg8 (by omega) Hb1.out.size; exact ⟨_, rfl, (ownBs_store (ownBs_store Hown.out Hbp.out (by decide) hg8) (Hbr.out.far (by simp <;> omega) _) (by decide) hg9).mono (by omega), below_own hb8 hg9 (by omega) hb8.size⟩
  · obtain rfl : wh = false := by rw [← hwh]; simp [hz]
    clear hwh
    go_enter Try.func32, Try.ntmps32
    go_wp2_with (first | ((with_reducible show wpList _ _ _ (Oper.mk (some 24) _ _ _ _ _ :: _) _ _); refine wpList_app8 _ rfl _ _ 23 rfl (w.heap.size + 3) 5 u8ok (.slice (some ⟨w.heap.size + 3, 0, none⟩) 0 0) [] rfl (ownBs_litNil (by simp) (Nat.le_refl _)) _ bs rfl ((((Hb.out.alloc _).alloc _).alloc _).alloc _) (by simp; omega) (by simp) ?_; intro v1 w1 hown1 hb1 hg1 hat1; clear hg1 hat1; rw [List.nil_append] at hown1; have hbp := ((Blk.new _ _ _).alloc _).below hb1 (by simp); have hbr := (((Blk.new _ _ _).alloc _).alloc _).below hb1 (by simp); simp only [World.size_alloc] at hbp hbr; have hc8 := hbp.cell 8; have hf8 := hbp.frozen 8; have Hbp := hid hbp; have Hbr := hid hbr; have Hb1 := hid ((below_alloc' (below_alloc' (below_alloc' (below_alloc w _) _) _) _).trans (hb1.mono (by omega))); have Hown := hid hown1; obtain ⟨A1, cap1, rfl, _, _, _⟩ := hown1.bs.cells; clear hown1 hb1 hbp hbr) | ((with_reducible show wpList _ _ _ (Oper.mk (some 26) _ _ _ _ _ :: _) _ _); refine wpList_loadBlk rfl _ _ rfl _ rfl _ _ _ (Hbp.out.set_ 8 _) Try.underlying35 rpkinfo ?_) | ((with_reducible show wpList _ _ _ (Oper.mk none _ _ _ _ _ :: _) _ _); refine wpList_storeBlk rfl _ _ _ rfl _ _ rfl rfl _ _ (Hbr.out.far (by simp <;> omega) _) rpkinfo rfl rfl ?_; intro w9 hblk9 hg9 hsz9))
    refine ret_cell1 rfl _ _ _ _ rfl hblk9 Try.underlying35 rpkinfo rfl ?_; have hg8 := grown_set w1 (w.heap.size + 1 + 1) 8 (.slice A1 bs.length cap1); have hb8 := below_own Hb1.out hg8 (by omega) Hb1.out.size; exact ⟨_, rfl, (ownBs_store (ownBs_store Hown.out Hbp.out (by decide) hg8) (Hbr.out.far (by simp <;> omega) _) (by decide) hg9).mono (by omega), below_own hb8 hg9 (by omega) hb8.size⟩
end Go.Proofs.Ytbjiicnagfeciaa
