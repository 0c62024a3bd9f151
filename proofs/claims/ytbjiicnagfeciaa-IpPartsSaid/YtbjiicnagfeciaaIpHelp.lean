/- Contracts of the law's twin, theirs, same; of the document's twin. -/
import Derived.Test.YtbjiicnagfeciaaIpCutA
import Derived.Test.YtbjiicnagfeciaaKept
namespace Go.Proofs.Ytbjiicnagfeciaa
open Go Go.RowKit
set_option maxRecDepth 100000

theorem rpkinfo : (Try.prog.info? 35).map (·.size) = some 9 := by kernel_rfl

theorem theirs_any (v : Value) (p : Pk) (w : World) (h : Bs w v p.body) :
    Calls Try.prog 14 #[.agg (pkCells p v).toArray] w fun e w' => e = .returned (.agg (pkCells p v).toArray) ∧ Below w.heap.size w w' := by
  obtain ⟨src, dst, proto, id, off, more, whole, ttl, body⟩ := p
  obtain ⟨A, cap, rfl, _, _, _⟩ := h.cells
  clear h
  dsimp only [pkCells]
  go_enter Try.func14, Try.ntmps14
  go_wp2_with fail
  have hb := Blk.new (w.alloc (.cells #[.int .u32 (src : Int), .int .u32 (dst : Int), .int .i64 proto, .int .i64 id, .int .i64 off, .bool more, .bool whole, .int .i64 ttl, .slice A body.length cap] 25)) 35 #[.int .u32 (src : Int), .int .u32 (dst : Int), .int .i64 proto, .int .i64 id, .int .i64 off, .bool more, .bool whole, .int .i64 ttl, .slice A body.length cap]
  rw [World.size_alloc] at hb
  refine ret_cell1 rfl _ _ _ _ rfl hb Try.underlying35 rpkinfo rfl ?_
  exact ⟨rfl, below_alloc' (below_alloc _ _) _⟩

theorem ltwin_any (v : Value) (p : Pk) (w : World) (h : Bs w v p.body) (hl : p.body.length ≤ 1099511627776) :
    Calls Try.prog 12 #[.agg (pkCells p v).toArray] w fun e w' => ∃ v', e = .returned (.agg (pkCells p v').toArray) ∧ OwnBs w' w.heap.size 5 v' p.body ∧ Below w.heap.size w w' := by
  obtain ⟨src, dst, proto, id, off, more, whole, ttl, body⟩ := p
  have Hb := hid h
  obtain ⟨A, cap, rfl, _, _, _⟩ := h.cells
  clear h
  simp only at hl Hb
  dsimp only [pkCells]
  go_enter Try.func12, Try.ntmps12
  go_wp2_with (first
    | ((with_reducible show wpList _ _ _ (Oper.mk (some 6) _ _ _ _ _ :: _) _ _); refine wpList_app8 _ rfl _ _ 23 rfl (w.heap.size + 2) 5 u8ok (.slice (some ⟨w.heap.size + 2, 0, none⟩) 0 0) [] rfl (ownBs_litNil (by simp) (Nat.le_refl _)) _ body rfl (((Hb.out.alloc _).alloc _).alloc _) (by simp; omega) (by simp) ?_; intro v1 w1 hown1 hb1 hg1 hat1; clear hg1 hat1; rw [List.nil_append] at hown1; have hbk := (((Blk.new w 25 #[.int .u32 (src : Int), .int .u32 (dst : Int), .int .i64 proto, .int .i64 id, .int .i64 off, .bool more, .bool whole, .int .i64 ttl, .slice A body.length cap]).alloc _).alloc _).below hb1 (by omega); have hc8 := hbk.cell 8; have hf8 := hbk.frozen 8; have hbr := ((Blk.new (w.alloc (.cells #[.int .u32 (src : Int), .int .u32 (dst : Int), .int .i64 proto, .int .i64 id, .int .i64 off, .bool more, .bool whole, .int .i64 ttl, .slice A body.length cap] 25)) 25 #[.int .u32 0, .int .u32 0, .int .i64 0, .int .i64 0, .int .i64 0, .bool false, .bool false, .int .i64 0, .slice none 0 0]).alloc _).below hb1 (by simp); rw [World.size_alloc] at hbr; have Hbk := hid hbk; have Hbr := hid hbr; have Hb1 := hid ((below_alloc' (below_alloc' (below_alloc w _) _) _).trans (hb1.mono (by omega))); have Hown := hid hown1; obtain ⟨A1, cap1, rfl, _, _, _⟩ := hown1.bs.cells; clear hown1 hb1 hbk hbr)
    | ((with_reducible show wpList _ _ _ (Oper.mk (some 8) _ _ _ _ _ :: _) _ _); refine wpList_loadBlk rfl _ _ rfl _ rfl _ _ _ (Hbk.out.set_ 8 _) Try.underlying25 pkinfo ?_)
    | ((with_reducible show wpList _ _ _ (Oper.mk none _ _ _ _ _ :: _) _ _); refine wpList_storeBlk rfl _ _ _ rfl _ _ rfl rfl _ _ (Hbr.out.far (by simp <;> omega) _) pkinfo rfl rfl ?_; intro w9 hblk9 hg9 hsz9))
  refine ret_cell1 rfl _ _ _ _ rfl hblk9 Try.underlying25 pkinfo rfl ?_
  have hg8 := grown_set w1 w.heap.size 8 (.slice A1 body.length cap1)
  have hb8 := below_own Hb1.out hg8 (Nat.le_refl _) Hb1.out.size
  exact ⟨_, rfl, (ownBs_store (ownBs_store Hown.out Hbk.out (by decide) hg8) (Hbr.out.far (by simp <;> omega) _) (by decide) hg9).mono (by omega), below_own hb8 hg9 (by omega) hb8.size⟩

theorem same_any (v1 v2 : Value) (p : Pk) (w : World) (h1 : Bs w v1 p.body) (h2 : Bs w v2 p.body) :
    Calls Try.prog 15 #[.agg (pkCells p v1).toArray, .agg (pkCells p v2).toArray] w fun e w' => e = .returned (.bool true) ∧ Below w.heap.size w w' := by
  obtain ⟨src, dst, proto, id, off, more, whole, ttl, body⟩ := p
  dsimp only [pkCells]
  simp only at h1 h2
  have B1 := hid ((h1.alloc (.cells #[.int .u32 (src : Int), .int .u32 (dst : Int), .int .i64 proto, .int .i64 id, .int .i64 off, .bool more, .bool whole, .int .i64 ttl, v1] 25)).alloc (.cells #[.int .u32 (src : Int), .int .u32 (dst : Int), .int .i64 proto, .int .i64 id, .int .i64 off, .bool more, .bool whole, .int .i64 ttl, v2] 35))
  have B2 := hid ((h2.alloc (.cells #[.int .u32 (src : Int), .int .u32 (dst : Int), .int .i64 proto, .int .i64 id, .int .i64 off, .bool more, .bool whole, .int .i64 ttl, v1] 25)).alloc (.cells #[.int .u32 (src : Int), .int .u32 (dst : Int), .int .i64 proto, .int .i64 id, .int .i64 off, .bool more, .bool whole, .int .i64 ttl, v2] 35))
  obtain ⟨A1, cap1, rfl, _, _, _⟩ := h1.cells
  obtain ⟨A2, cap2, rfl, _, _, _⟩ := h2.cells
  clear h1 h2
  have s1 := run_str Try.underlying23 Try.underlying5 Try.underlying9 B1.out
  have s2 := run_str Try.underlying23 Try.underlying5 Try.underlying9 B2.out
  have c1 := ((Blk.new w 25 #[.int .u32 (src : Int), .int .u32 (dst : Int), .int .i64 proto, .int .i64 id, .int .i64 off, .bool more, .bool whole, .int .i64 ttl, .slice A1 body.length cap1]).alloc (.cells #[.int .u32 (src : Int), .int .u32 (dst : Int), .int .i64 proto, .int .i64 id, .int .i64 off, .bool more, .bool whole, .int .i64 ttl, .slice A2 body.length cap2] 35)).cell
  go_enter Try.func15, Try.ntmps15
  go_wp2_with fail
  go_ret
  exact ⟨rfl, below_alloc' (below_alloc w _) _⟩
end Go.Proofs.Ytbjiicnagfeciaa
