/- Contract of ip.Cut, where the packet is not taken to parts. -/
import Derived.Test.YtbjiicnagfeciaaIpSpec
import Derived.Test.YtbjiicnagfeciaaNumH
import Derived.Test.YtbjiicnagfeciaaRegion
import Derived.Test.YtbjiicnagfeciaaOwn
import Derived.Deep.Cut
namespace Go.Proofs.Ytbjiicnagfeciaa
open Go Go.RowKit
set_option maxRecDepth 100000

theorem pkinfo : (Try.prog.info? 25).map (·.size) = some 9 := by kernel_rfl
theorem own_litS {w : World} {base : Nat} {e : TypeId} (size : Nat) (cs : Array Value) (n H : Nat) (hn : cs.size = n * size) (hH : H = w.heap.size) (hb : base ≤ H) (hm : n ≤ maxLen) :
    (w.alloc (.cells cs e)).ownsRow base e size (.slice (some ⟨H, 0, none⟩) n n) n cs.toList := by
  subst hH
  refine ⟨by simpa using hn, .inr ⟨w.heap.size, n, cs, rfl, hb, heap_alloc_new w _, Nat.le_refl _, hm, hn, ?_⟩⟩
  rw [← hn]
  exact List.take_of_length_le (by simp)

theorem ipCut_few (v : Value) (p : Pk) (mtu : Int) (w : World) (h : Bs w v p.body) (h1 : -9223372036854775808 ≤ mtu) (h2 : mtu ≤ 9223372036854775807)
    (hfew : mtu < 28 ∨ p.more = true ∨ p.off ≠ 0 ∨ p.body.length > 65515 ∨ (p.body.length : Int) ≤ mtu - 20) :
    Calls Try.prog 11 #[.agg (pkCells p v).toArray, .int .i64 mtu] w fun e w' => ∃ v', e = .returned (.tuple #[v', .int .i64 (ipCut p mtu).2]) ∧
      OwnPkL w' w.heap.size 25 5 v' (ipCut p mtu).1 ∧ Below w.heap.size w w' := by
  obtain ⟨src, dst, proto, id, off, more, whole, ttl, body⟩ := p
  have Hb := hid h
  obtain ⟨A, cap, rfl, k1, k2, _⟩ := h.cells
  clear h
  simp only at k1
  dsimp only [pkCells]
  by_cases g1 : mtu < 28
  · have Hr := hid (show ipCut ⟨src, dst, proto, id, off, more, whole, ttl, body⟩ mtu = ([], 1) by simp [ipCut, g1])
    rw [Hr.out]
    go_enter Try.func11, Try.ntmps11
    go_wp2_with fail
    go_ret2
    exact ⟨_, rfl, OwnPkL.nil _ _ _ _, below_alloc _ _⟩
  by_cases g2 : more = true
  · subst g2
    have Hr := hid (show ipCut ⟨src, dst, proto, id, off, true, whole, ttl, body⟩ mtu = ([], 15) by simp [ipCut, g1])
    rw [Hr.out]
    go_enter Try.func11, Try.ntmps11
    go_wp2_with fail
    go_ret2
    exact ⟨_, rfl, OwnPkL.nil _ _ _ _, below_alloc _ _⟩
  have g2' : more = false := by simpa using g2
  subst g2'
  by_cases g3 : off = 0
  case neg =>
    have Hr := hid (show ipCut ⟨src, dst, proto, id, off, false, whole, ttl, body⟩ mtu = ([], 15) by simp [ipCut, g1, g3])
    have g3' : (off != 0) = true := by simpa using g3
    rw [Hr.out]
    go_enter Try.func11, Try.ntmps11
    go_wp2_with fail
    go_ret2
    exact ⟨_, rfl, OwnPkL.nil _ _ _ _, below_alloc _ _⟩
  subst g3
  by_cases g4 : body.length > 65515
  · have g4' : (body.length : Int) > 65515 := by omega
    have Hr := hid (show ipCut ⟨src, dst, proto, id, 0, false, whole, ttl, body⟩ mtu = ([], 5) by simp [ipCut, g1]; omega)
    rw [Hr.out]
    go_enter Try.func11, Try.ntmps11
    go_wp2_with fail
    go_ret2
    exact ⟨_, rfl, OwnPkL.nil _ _ _ _, below_alloc _ _⟩
  have g4' : ¬ (body.length : Int) > 65515 := by omega
  have g5 : (body.length : Int) ≤ mtu - 20 := by simp at hfew; omega
  have Hr := hid (show ipCut ⟨src, dst, proto, id, 0, false, whole, ttl, body⟩ mtu = ([⟨src, dst, proto, id, 0, false, true, ttl, body⟩], 0) by simp [ipCut, g1, g5]; omega)
  rw [Hr.out]
  clear hfew
  go_enter Try.func11, Try.ntmps11
  go_wp2_with (first
    | ((go_at_call 30; refine (clone_any _ body _ (Hb.out.alloc _) (by omega)).mono ?_; rintro e w' ⟨v1, rfl, hown, hb1⟩); have Hown := hid hown; have Hb1 := hid ((below_alloc w _).trans (hb1.mono (by simp))); have Hblk := hid ((Blk.new w _ _).keep hb1); have hc6 := Hblk.out.cell 6; have hc8 := Hblk.out.cell 8; have hf6 := Hblk.out.frozen 6; have hf8 := Hblk.out.frozen 8; obtain ⟨A1, cap1, rfl, _, _, _⟩ := hown.bs.cells; clear hown hb1)
    | ((with_reducible show wpList _ _ _ (Oper.mk (some 37) _ _ _ _ _ :: _) _ _); refine wpList_loadBlk rfl _ _ rfl _ rfl _ _ _ ((Hblk.out.set_ 8 _).set_ 6 _) Try.underlying25 pkinfo ?_))
  go_ret2
  have hg := grown_trans (grown_set w' w.heap.size 8 (.slice A1 body.length cap1)) (grown_set _ w.heap.size 6 (.bool true))
  have hb2 := below_own Hb1.out hg (Nat.le_refl _) Hb1.out.size
  refine ⟨_, rfl, ⟨[(⟨src, dst, proto, id, 0, false, true, ttl, body⟩, .slice A1 body.length cap1)], ⟨fun q hq => ?_, ?_⟩, rfl⟩, below_alloc' hb2 _⟩
  · obtain rfl : q = _ := by simpa using hq
    exact ((ownBs_store (Hown.out) Hblk.out (by decide) hg).alloc _).mono (by simp)
  · exact own_litS 9 _ 1 _ rfl (by simp) (by have := Hb1.out.size; simpa using this) (by simp [maxLen])
end Go.Proofs.Ytbjiicnagfeciaa
