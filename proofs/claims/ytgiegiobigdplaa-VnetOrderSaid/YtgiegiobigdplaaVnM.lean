/- A card's queue is begun. -/
import Derived.Test.YtgiegiobigdplaaVnL
namespace Go.Proofs.Ytgiegiobigdplaa
open Go Go.RowKit
attribute [local go_sem ↓] Go.wp_at_zero Go.wp_at_succ
set_option maxRecDepth 100000
set_option linter.unusedSimpArgs false

theorem qinfo : (Try.prog.info? 58).map (·.size) = some 4 := by kernel_rfl
theorem headF_none (n : Nat) : headF (List.replicate n false) = fun _ => none := by
  funext y
  unfold headF
  rw [List.getElem?_replicate]
  split <;> simp
theorem DrvInv.base_ {w : World} {base base' gm b n g : Nat} {q : VQ} {m : Nat} {F : Nat → Prop} (h : DrvInv w base gm b n g q m F) (hb : base' ≤ base) : DrvInv w base' gm b n g q m F := by
  obtain ⟨a1, a2, a3, h⟩ := h
  exact ⟨a1, a2, a3, h.tab, h.bs, h.len, h.map, fun x hx => ⟨fun hb2 => by
    obtain ⟨v, h1, h2, h3⟩ := (h.ch x hx).1 hb2
    exact ⟨v, h1, own_mono h2 hb, h3⟩, (h.ch x hx).2⟩, h.fg, h.fb, h.fc, fun k hk => ⟨Nat.le_trans hb (h.flt k hk).1, (h.flt k hk).2⟩, h.put, h.got⟩
def BeginPost (gm b n fr : Nat) (M : List UInt8) (w : World) (e : Ending) (w' : World) : Prop := ∃ gd gp gh FD, e = .returned (.tuple #[.agg #[.pointer (some ⟨gd, 0, none⟩), .int .i64 (fr : Int), .slice (some ⟨gp, 0, none⟩) n n, .map (some gh)], .int .i64 0]) ∧ QAt w' w.heap.size gm b n (vq0 n) 0 gd gp gh FD ∧ MemAt w' gm (patch M b (zeros (vSize n))) ∧ Frame (fun k => k = gm) w w'
theorem vbegin_yes (gm L b n fr : Nat) (M : List UInt8) (w : World) (hok : okN (n : Int) = true) (hb : b + vSize n ≤ L) (hL : L ≤ 1000000) (hM : M.length = L) (hm : MemAt w gm M) :
    Calls Try.prog 28 #[.slice (some ⟨gm, 0, none⟩) L L, .int .i64 (b : Int), .int .i64 (n : Int), .int .i64 (fr : Int)] w (BeginPost gm b n fr M w) := by
  have hn := okN_le hok
  have hmk := run_makeB .i64 .i64 (n : Int) n rfl (by omega)
  have hmm := @run_makeMap Try.prog
  have Hlt := hid (Blk.lt hm)
  have HB := hid (below_alloc w (.cells #[.pointer none, .int .i64 0, .slice none 0 0, .map none] 58))
  have BX := hid (Blk.new w 58 #[.pointer none, .int .i64 0, .slice none 0 0, .map none])
  have HD := hid (vnewdrv_yes gm L b n M _ hok hb hL hM (hm.keep HB.out))
  clear hok hb hL hM hm
  go_enter Try.func28, Try.ntmps28
  go_upto_region 2 with (go_at_call 50; refine HD.out.mono ?_; rintro e w2 ⟨gd, FD, rfl, hd, hm, hf⟩; have D2 := hid hd; have M2 := hid hm; have F2 := hid hf; clear hd hm hf)
  have hgr : w.heap.size ≠ gm := by have := Hlt.out; omega
  have X2 := hid (F2.out.blk BX.out hgr)
  generalize w.alloc (.cells #[.pointer none, .int .i64 0, .slice none 0 0, .map none] 58) = w1 at *
  go_wp2_with ((with_reducible show wpList _ _ _ (Oper.mk none _ _ _ _ _ :: _) _ _); refine wpList_storeBlk rfl _ _ _ rfl _ _ rfl rfl _ _ (((X2.out.alloc _).alloc _)) qinfo rfl rfl ?_; intro w4 hblk hg hsz; have S4 := hid hblk; have G4 := hid hg; clear hblk hg hsz; (try simp only [Act.put]))
  refine ret_cell2 rfl _ _ _ _ rfl S4.out Try.underlying58 qinfo _ rfl rfl ?_
  have hz2 : w.heap.size ≤ w2.heap.size := Nat.le_trans HB.out.size F2.out.size
  have hb2 : Below w2.heap.size w2 ((w2.alloc (.cells (falses n) 4)).alloc (.map #[] 0)) := below_alloc' (below_alloc w2 _) _
  have D3 := D2.out.keep hb2
  have M3 := M2.out.keep hb2
  have P3 := (Blk.new w2 4 (falses n)).alloc (.map #[] 0)
  have H3 := MapI.made Try.prog 3 (w2.alloc (.cells (falses n) 4))
  rw [World.size_alloc] at H3
  have f4 := frame_mem G4.out
  have hw1 : w.heap.size < w1.heap.size := BX.out.lt
  have hz1 : w1.heap.size ≤ w2.heap.size := F2.out.size
  have hno : ∀ k, FD k → k ≠ w.heap.size := fun k hk e => by
    have := D2.out.bd k hk
    omega
  have hfd : ∀ k, FD k → k < w2.heap.size := fun k hk => (D2.out.bd k hk).2
  refine ⟨gd, w2.heap.size, w2.heap.size + 1, FD, rfl, ⟨(D3.base_ (Nat.le_of_lt hw1)).frame f4 hno, ?_, ?_, fun e => by have := hfd _ e; omega, fun e => by have := hfd _ e; omega, by omega, by omega⟩, M3.frame f4 (by have := Hlt.out; omega), ?_⟩
  · have := f4.blk P3 (by omega)
    rw [show (falses n).toList = (vq0 n).busy.map Value.bool by simp [falses, vq0]] at this
    exact this
  · show MapI Try.prog 3 w4 (w2.heap.size + 1) 0 (headF (List.replicate n false))
    rw [headF_none]
    exact H3.block (f4.block _ H3.lt (by omega))
  · have h1 : Frame (fun k => k = gm) w w2 := (Below.frameF HB.out _).trans F2.out (fun _ _ h => h)
    have h2 : Frame (fun k => k = gm ∨ k = w.heap.size) w w4 := ((h1.weaken (fun _ _ e => .inl e)).trans (Below.frameF hb2 (fun _ => False)) (fun _ _ e => e.elim)).trans f4 (fun _ _ e => .inr e)
    exact ⟨h2.os, h2.tape, h2.output, h2.size, fun k hk hn => h2.block k hk (fun e => e.elim hn (fun e => by omega))⟩
end Go.Proofs.Ytgiegiobigdplaa
