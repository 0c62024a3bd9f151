/- Contract of ip.Cut, where the packet is taken to parts. -/
import Derived.Test.YtbjiicnagfeciaaIpCutA
import Derived.Test.YtbjiicnagfeciaaChunk
import Derived.Test.YtbjiicnagfeciaaRound
import Derived.Test.YtbjiicnagfeciaaKept
import Derived.Stop.RegionWithIn
import Derived.Sort.CutIn
import Derived.Deep.CutRange
namespace Go.Proofs.Ytbjiicnagfeciaa
open Go Go.RowKit Go.Shelf
attribute [local go_sem] Oper.semAt_some
set_option maxRecDepth 100000

def pkzero : Value := .agg #[.int .u32 0, .int .u32 0, .int .i64 0, .int .i64 0, .int .i64 0, .bool false, .bool false, .int .i64 0, .slice none 0 0]
theorem pkinfo2 : (Try.prog.info? 25).map (fun i => (i.zero, i.size, i.bytes)) = some (some pkzero, 9, 72) := by kernel_rfl
theorem chunk_any (A : Option Addr) (n cap size : Nat) (w : World) (hs : 0 < size) :
    Calls Try.prog 31 #[.slice A n cap, .int .i64 size] w fun e w' =>
      e = .returned (.func (.func 49) #[] #[.pointer (some ⟨w.heap.size, 0, none⟩), .pointer (some ⟨w.heap.size + 1, 0, none⟩)]) ∧
      w' = (w.alloc (.cells #[.slice A n cap] 23)).alloc (.cells #[.int .i64 size] 3) := by
  go_enter Try.func31, Try.ntmps31
  go_wp2_with fail
  go_ret
  exact ⟨rfl, rfl⟩

theorem chunk_stops (m : Nat) (hm : 1 ≤ m) (Bs Bn n₀ B1 B2 b off len cap size : Nat) (hlen : len ≤ 65536) (hsz : 0 < size) (hsz2 : size ≤ 65536) (hlc : len ≤ cap)
    (hB1 : B1 ≤ Bs) (hB2 : Bs < B2) (hB3 : B1 ≤ Bn) (hB4 : Bn < B2) (W0 : World) (hs : W0.cell? ⟨Bs, 0, none⟩ = some (.slice (some ⟨b, off, none⟩) len cap)) (hnn : W0.cell? ⟨Bn, 0, none⟩ = some (.int .i64 size)) :
    SeqStopsK Fence.wide m Try.prog 49 #[.pointer (some ⟨Bs, 0, none⟩), .pointer (some ⟨Bn, 0, none⟩)] (fun k => #[chunkV b off len size k]) (KpC n₀ B1 B2)
      (fun ys => ys = List.range ((len + size - 1) / size)) (fun _ => True) ((len + size - 1) / size) W0 :=
  fun l J Jx W hW hJ _ hY h0 => chunk1_in m hm l Bs Bn n₀ B1 B2 b off len cap size hlen hsz hsz2 hlc hB1 hB2 hB3 hB4 J Jx W hJ hY (cell_below hW hs) (cell_below hW hnn) h0

theorem chunk_bs {w : World} {b boff cap : Nat} {body : List UInt8} (h : Bs w (.slice (some ⟨b, boff, none⟩) body.length cap) body) (x size : Nat) (hs : 8 ≤ size) :
    Bs w (chunkV b boff body.length size x) ((body.drop (x * size)).take size) := by
  obtain ⟨hl, A, c, hv, k1, k2, hc⟩ := h
  injection hv with e1 e2 e3
  subst e3
  have hlen : ((body.drop (x * size)).take size).length = min size (body.length - x * size) := by simp
  refine ⟨by simp, _, _, by rw [hlen]; rfl, by rw [hlen]; exact Nat.le_refl _, by omega, ?_⟩
  by_cases hz : body.length - x * size = 0
  · left; rw [hlen]; omega
  right
  rcases hc with hc | ⟨g, off, hA, hc⟩
  · omega
  rw [← e1] at hA
  injection hA with hA
  injection hA with hb ho
  subst hb; subst ho
  refine ⟨_, _, rfl, fun i y hy => ?_⟩
  have hi : i < ((body.drop (x * size)).take size).length := by
    have := (List.getElem?_eq_some_iff.1 hy).1
    simpa using this
  have := hc (x * size + i) y (by
    rw [← hy]
    simp only [List.getElem?_map]
    congr 1
    rw [List.getElem?_take_of_lt (by simp at hi; omega), List.getElem?_drop])
  rw [Nat.add_assoc]
  exact this

set_option maxHeartbeats 2000000 in
theorem ipCut_many (b boff cap : Nat) (src dst : Nat) (proto id : Int) (whole : Bool) (ttl : Int) (body : List UInt8) (mtu : Int) (size : Nat) (w : World) (h : Bs w (.slice (some ⟨b, boff, none⟩) body.length cap) body) (h1 : 28 ≤ mtu) (h2 : mtu ≤ 9223372036854775807)
    (h4 : body.length ≤ 65515) (h5 : ¬ (body.length : Int) ≤ mtu - 20) (hsize : (mtu - 20) / 8 * 8 = (size : Int)) :
    Calls Try.prog 11 #[.agg (pkCells ⟨src, dst, proto, id, 0, false, whole, ttl, body⟩ (.slice (some ⟨b, boff, none⟩) body.length cap)).toArray, .int .i64 mtu] w fun e w' => ∃ v', e = .returned (.tuple #[v', .int .i64 0]) ∧
      OwnPkL w' w.heap.size 25 5 v' (partsOf ⟨src, dst, proto, id, 0, false, whole, ttl, body⟩ size (List.range ((body.length + size - 1) / size))) ∧ Below w.heap.size w w' := by
  have Hb := hid h
  obtain ⟨_, _, hv, k1, k2, _⟩ := h.cells
  injection hv with hv1 hv2 hv3
  subst hv3
  clear hv1 hv2 h
  dsimp only [pkCells]
  have g1 : ¬ mtu < 28 := by omega
  have g4 : ¬ (body.length : Int) > 65515 := by omega
  have hs8 : 8 ≤ size ∧ size ≤ 65536 := by omega
  obtain ⟨W0, hW0⟩ : ∃ x, x = (((((w.alloc (.cells #[.int .u32 (src : Int), .int .u32 (dst : Int), .int .i64 proto, .int .i64 id, .int .i64 0, .bool false, .bool whole, .int .i64 ttl, .slice (some ⟨b, boff, none⟩) body.length cap] 25)).alloc (.cells #[.int .i64 (size : Int)] 3)).alloc (.cells #[.slice none 0 0] 27)).alloc (.cells #[.slice (some ⟨b, boff, none⟩) body.length cap] 23)).alloc (.cells #[.int .i64 (size : Int)] 3)) := ⟨_, rfl⟩
  have fsz : W0.heap.size = w.heap.size + 5 := by rw [hW0]; simp
  have fB : Below w.heap.size w W0 := by rw [hW0]; exact below_alloc' (below_alloc' (below_alloc' (below_alloc' (below_alloc _ _) _) _) _) _
  have fp : Blk W0 w.heap.size 25 [.int .u32 (src : Int), .int .u32 (dst : Int), .int .i64 proto, .int .i64 id, .int .i64 0, .bool false, .bool whole, .int .i64 ttl, .slice (some ⟨b, boff, none⟩) body.length cap] := by rw [hW0]; exact ((((Blk.new w _ #[.int .u32 (src : Int), .int .u32 (dst : Int), .int .i64 proto, .int .i64 id, .int .i64 0, .bool false, .bool whole, .int .i64 ttl, .slice (some ⟨b, boff, none⟩) body.length cap]).alloc _).alloc _).alloc _).alloc _
  have fz : Blk W0 (w.heap.size + 1) 3 [.int .i64 (size : Int)] := by rw [hW0]; have := (((Blk.new (w.alloc (.cells #[.int .u32 (src : Int), .int .u32 (dst : Int), .int .i64 proto, .int .i64 id, .int .i64 0, .bool false, .bool whole, .int .i64 ttl, .slice (some ⟨b, boff, none⟩) body.length cap] 25)) 3 #[.int .i64 (size : Int)]).alloc (.cells #[.slice none 0 0] 27)).alloc (.cells #[.slice (some ⟨b, boff, none⟩) body.length cap] 23)).alloc (.cells #[.int .i64 (size : Int)] 3); simpa using this
  have fo : Blk W0 (w.heap.size + 2) 27 [.slice none 0 0] := by rw [hW0]; have := ((Blk.new ((w.alloc (.cells #[.int .u32 (src : Int), .int .u32 (dst : Int), .int .i64 proto, .int .i64 id, .int .i64 0, .bool false, .bool whole, .int .i64 ttl, .slice (some ⟨b, boff, none⟩) body.length cap] 25)).alloc (.cells #[.int .i64 (size : Int)] 3)) 27 #[.slice none 0 0]).alloc (.cells #[.slice (some ⟨b, boff, none⟩) body.length cap] 23)).alloc (.cells #[.int .i64 (size : Int)] 3); simpa using this
  have fs : Blk W0 (w.heap.size + 3) 23 [.slice (some ⟨b, boff, none⟩) body.length cap] := by rw [hW0]; have := (Blk.new (((w.alloc (.cells #[.int .u32 (src : Int), .int .u32 (dst : Int), .int .i64 proto, .int .i64 id, .int .i64 0, .bool false, .bool whole, .int .i64 ttl, .slice (some ⟨b, boff, none⟩) body.length cap] 25)).alloc (.cells #[.int .i64 (size : Int)] 3)).alloc (.cells #[.slice none 0 0] 27)) 23 #[.slice (some ⟨b, boff, none⟩) body.length cap]).alloc (.cells #[.int .i64 (size : Int)] 3); simpa using this
  have fn : Blk W0 (w.heap.size + 4) 3 [.int .i64 (size : Int)] := by rw [hW0]; have := Blk.new ((((w.alloc (.cells #[.int .u32 (src : Int), .int .u32 (dst : Int), .int .i64 proto, .int .i64 id, .int .i64 0, .bool false, .bool whole, .int .i64 ttl, .slice (some ⟨b, boff, none⟩) body.length cap] 25)).alloc (.cells #[.int .i64 (size : Int)] 3)).alloc (.cells #[.slice none 0 0] 27)).alloc (.cells #[.slice (some ⟨b, boff, none⟩) body.length cap] 23)) 3 #[.int .i64 (size : Int)]; simpa using this
  refine (callsIn_wide (n := 5)).1 ?_
  refine callsIn_of_wp_marks Try.func11 rfl trivial ?_ rfl
  simp only [Try.ntmps11, List.size_toArray, List.length_cons, List.length_nil, Nat.reduceAdd, Nat.reduceSub, Array.replicate_succ, Array.replicate_zero, List.push_toArray, List.append_toArray, List.nil_append, List.cons_append]
  refine wpIn_wide.2 ?_
  go_wp2_with (first
    | ((go_at_call 31; refine (chunk_any _ _ _ size _ (by omega)).mono ?_; rintro e w' ⟨rfl, rfl⟩)))
  rw [← hW0]
  clear hW0
  refine (wpIn_wide (n := 5)).1 ?_
  refine wpIn_rangeFunc_ownQ (q := 8) (enc := chunkV b boff body.length size) rfl (by omega) (gf := 49) (lb := #[.pointer (some ⟨w.heap.size + 3, 0, none⟩), .pointer (some ⟨w.heap.size + 4, 0, none⟩)]) rfl trivial (enters_of Try.func49 (by kernel_rfl) rfl)
    (chunk_stops 4 (by omega) (w.heap.size + 3) (w.heap.size + 4) w.heap.size (w.heap.size + 3) (w.heap.size + 5) b boff body.length cap size (by omega) (by omega) (by omega) (by omega) (by omega) (by omega) (by omega) (by omega) W0 (fs.cell 0) (fn.cell 0))
    KpC.trans (KpC.put (by omega) (by omega)) (Below.refl _ _)
    (fun pre W => ∃ v qs, Blk W (w.heap.size + 2) 27 [v] ∧ OwnPks W (w.heap.size + 5) 25 5 v qs ∧ qs.map Prod.fst = partsOf (⟨src, dst, proto, id, 0, false, whole, ttl, body⟩ : Pk) size pre ∧ Blk W w.heap.size 25 [.int .u32 (src : Int), .int .u32 (dst : Int), .int .i64 proto, .int .i64 id, .int .i64 0, .bool false, .bool whole, .int .i64 ttl, .slice (some ⟨b, boff, none⟩) body.length cap] ∧ Blk W (w.heap.size + 1) 3 [.int .i64 (size : Int)] ∧ Below w.heap.size w W ∧ w.heap.size + 5 ≤ W.heap.size)
    ?hI ⟨_, [], fo, ⟨fun _ h => (by cases h), World.ownsRow_nil _ _ _ _⟩, rfl, fp, fz, fB, by omega⟩ ?assign ?body ?done
  case hI =>
    rintro s W W' row ⟨v, qs, h1, h2, h3, h4, h5, h6, h7⟩ hg hr
    exact ⟨v, qs, h1.grown hg (notrow hr h1), ⟨fun q hq => ownsRow_own (h2.1 q hq) hg hr, ownsRow_own h2.2 hg hr⟩, h3, h4.grown hg (notrow hr h4), h5.grown hg (notrow hr h5), h6.grown hg h6.size (fun k hk => by have := (hr k hk).1; omega), Nat.le_trans h7 hg.size⟩
  case assign =>
    intro l x W K hK
    simp only [List.setIfInBounds_toArray, List.set_cons_succ, List.set_cons_zero] at hK ⊢
    gi_wp2
    exact hK
  case body =>
    rintro l pre x W ⟨v, qs, h1, h2, h3, h4, h5, h6, h7⟩ hlt
    obtain ⟨m, hm⟩ : ∃ m, min size (body.length - x * size) = m := ⟨_, rfl⟩
    have Hm := hid hm
    simp only [List.setIfInBounds_toArray, List.set_cons_succ, List.set_cons_zero, chunkV, hm]
    have hm64 : m ≤ 65536 := by omega
    clear hm
    obtain ⟨_, Ao, co, rfl, r1, r2, r3⟩ := RowN.of_own h2.2
    obtain ⟨rb, hrb⟩ : ∃ rb, (body.drop (x * size)).take size = rb := ⟨_, rfl⟩
    have hrl : rb.length = m := by rw [← hrb, ← Hm.out]; simp
    gi_upto_region 15 with (first
      | ((with_reducible show wpListIn _ _ _ _ _ (Oper.mk (some 48) _ _ _ _ _ :: _) _ _); refine wpListIn_loadBlk rfl _ _ rfl _ rfl _ _ _ h4 Try.underlying25 pkinfo ?_)
      | ((with_reducible show wpListIn _ _ _ _ _ (Oper.mk none _ _ _ _ _ :: _) _ _); refine wpListIn_storeBlk rfl _ _ _ rfl _ _ rfl rfl _ _ (Blk.new _ _ _) pkinfo rfl rfl ?_; intro W1 hblk1 hg1 hsz1))
    have kb := below_new_store hg1
    have hb1 : Bs W1 (.slice (some ⟨b, boff + x * size, none⟩) m m) rb := by
      have := chunk_bs ((Hb.out.below h6).below kb) x size hs8.1
      rw [hrb] at this
      unfold chunkV at this
      rw [Hm.out] at this
      exact this
    have f2 := h1.keep kb
    have f1 := h5.keep kb
    have hc2 := f2.cell 0
    have hc1 := f1.cell 0
    have hc4 := hblk1.cell 4
    have hc8 := hblk1.cell 8
    have hz4 := hblk1.frozen 4
    have hz8 := hblk1.frozen 8
    have hql : qs.length = pre.length := by have := congrArg List.length h3; rw [List.length_map, partsOf_len] at this; exact this
    have hps : pre.length * size ≤ 65515 := by
      have h7 : (pre.length + 1) * size ≤ body.length + size - 1 := (Nat.le_div_iff_mul_le (by omega)).1 hlt
      rw [Nat.succ_mul] at h7
      omega
    obtain ⟨os, hos⟩ : ∃ os, pre.length * size = os := ⟨_, rfl⟩
    have hmw : IntKind.i64.wrap ((qs.length : Int) * (size : Int)) = (os : Int) := by
      rw [hql, ← Int.natCast_mul, hos]; exact IntWalk.i64_in _ (by omega)
    have Hql := hid hql
    have hos2 : os ≤ 65515 := by omega
    have Hos := hid hos
    have Hps := hid hps
    clear hos hps hsz1 hg1 hql
    simp only [Act.put]
    gi_cut [] from 49 (fun w2 => ∃ A2 cap2, OwnBs w2 (w.heap.size + 5) 5 (.slice A2 m cap2) rb ∧ Blk w2 W.heap.size 25 [.int .u32 (src : Int), .int .u32 (dst : Int), .int .i64 proto, .int .i64 id, .int .i64 (os : Int), .bool false, .bool whole, .int .i64 ttl, .slice A2 m cap2] ∧ Below W.heap.size W w2)
    case first =>
      gi_region_with (first
        | ((refine ⟨trivial, ?_⟩; gi_at_call 30; refine (CallsIn.inRound l (callsIn_wide.2 (clone_any _ rb _ (by (repeat (first | exact hb1 | refine Bs.drew ?_ | refine Bs.drewN ?_ _))) (by omega)))).mono ?_; rintro e W2 ⟨v2, rfl, hown, hb⟩); have hb' : Below W1.heap.size W1 W2 := (by first | exact (below_drew _).trans hb | exact (below_drewN (Below.refl _ _) _).trans hb | exact hb); have hd2 := (f2.keep hb').cell 0; have hd1 := (f1.keep hb').cell 0; have hd4 := (hblk1.keep hb').cell 4; have hd8 := (hblk1.keep hb').cell 8; have hy4 := (hblk1.keep hb').frozen 4; have hy8 := (hblk1.keep hb').frozen 8; have Hown2 := hid hown; have Hb2 := hid hb'; obtain ⟨A2, cap2, rfl, _, _, _⟩ := hown.bs.cells; clear hown hb hb'))
      all_goals
        gi_wp2
        gi_meet
        case rel =>
          subst hrl
          have b2 := hblk1.keep Hb2.out
          have hst := grown_trans (grown_set W2 W.heap.size 4 (.int .i64 (os : Int))) (grown_set _ W.heap.size 8 (.slice A2 rb.length cap2))
          have hbl := kb.trans (Hb2.out.mono kb.size)
          exact ⟨A2, cap2, ownBs_store (Hown2.out.mono (by have := kb.size; simp; omega)) b2 (by decide) hst, (b2.set_ 4 (.int .i64 (os : Int))).set_ 8 (.slice A2 rb.length cap2), below_own hbl hst (Nat.le_refl _) hbl.size⟩
    case rest =>
    obtain ⟨A2, cap2, w2o, w2b, w2k⟩ := hcut
    have k2 := h1.keep w2k
    have k0 := h4.keep w2k
    have hd2 := k2.cell 0
    have hq8 := k0.cell 8
    have e4 := w2b.cell 4
    have e5 := w2b.cell 5
    have e6 := w2b.cell 6
    have z5 := w2b.frozen 5
    have z6 := w2b.frozen 6
    gi_upto_region 17 with (fail)
    have hst := grown_trans (grown_set wc W.heap.size 5 (.bool (decide ((os : Int) + (m : Int) < (body.length : Int))))) (grown_set _ W.heap.size 6 (.bool false))
    have w3b := (w2b.set_ 5 (.bool (decide ((os : Int) + (m : Int) < (body.length : Int))))).set_ 6 (.bool false)
    have w3k := below_own w2k hst (Nat.le_refl _) w2k.size
    have w3o := ownBs_store w2o w2b (by decide) hst
    clear hst w2o w2b w2k k2 k0 hd2 hq8 e4 e5 e6 z5 z6
    generalize (wc.setCell ⟨W.heap.size, 5, none⟩ (.bool (decide ((os : Int) + (m : Int) < (body.length : Int))))).setCell ⟨W.heap.size, 6, none⟩ (.bool false) = w3 at *
    have k2 := h1.keep w3k
    have hd2 := k2.cell 0
    have w3row := own_below h2.2 w3k
    obtain ⟨i0, hi, hz0, hz1, hz2⟩ := info_parts pkinfo2
    have hqs : qs.length ≤ 65515 := by
      have h8 : pre.length * 1 ≤ pre.length * size := Nat.mul_le_mul_left _ (by omega)
      have := Hps.out
      have := Hql.out
      omega
    have hpart := hid (show pkCells (partOf (⟨src, dst, proto, id, 0, false, whole, ttl, body⟩ : Pk) size pre.length x) (.slice A2 m cap2) = [.int .u32 (src : Int), .int .u32 (dst : Int), .int .i64 proto, .int .i64 id, .int .i64 (os : Int), .bool (decide ((os : Int) + (m : Int) < (body.length : Int))), .bool false, .int .i64 ttl, .slice A2 m cap2] by
      have h9 : decide (os + m < body.length) = decide ((os : Int) + (m : Int) < (body.length : Int)) := by
        congr 1; simp only [eq_iff_iff]; omega
      simp only [pkCells, partOf, Hos.out, Hm.out, h9])
    gi_wp2_with (first
      | ((with_reducible show wpListIn _ _ _ _ _ (Oper.mk (some 69) _ _ _ _ _ :: _) _ _); refine wpListIn_loadBlk rfl _ _ rfl _ rfl _ _ _ w3b Try.underlying25 pkinfo ?_)
      | ((with_reducible show wpListIn _ _ _ _ _ (Oper.mk (some 71) _ _ _ _ _ :: _) _ _); refine wpListIn_append_own _ rfl _ _ 27 rfl (w.heap.size + 5) 25 i0 pkzero 9 72 Try.underlying27 hi hz0 hz1 hz2 rfl (by decide) _ qs.length (pkRow qs) rfl (w3row.alloc _) ⟨w3.heap.size, 0, none⟩ 1 1 [.int .u32 (src : Int), .int .u32 (dst : Int), .int .i64 proto, .int .i64 id, .int .i64 (os : Int), .bool (decide ((os : Int) + (m : Int) < (body.length : Int))), .bool false, .int .i64 ttl, .slice A2 m cap2] rfl rfl (cells_new (W := w3) (cs := #[.int .u32 (src : Int), .int .u32 (dst : Int), .int .i64 proto, .int .i64 id, .int .i64 (os : Int), .bool (decide ((os : Int) + (m : Int) < (body.length : Int))), .bool false, .int .i64 ttl, .slice A2 m cap2])) (by simp [Value.oneCell']) (by simp only [maxLen]; omega) (by omega) (by have := w3k.size; simp; omega) ?_; intro v' w4 hown' hgrow hnil; clear hnil; obtain ⟨_, A5, c5, rfl, _, _, _⟩ := RowN.of_own hown'; have hbel : Below (w.heap.size + 5) (w3.alloc (.cells #[.int .u32 (src : Int), .int .u32 (dst : Int), .int .i64 proto, .int .i64 id, .int .i64 (os : Int), .bool (decide ((os : Int) + (m : Int) < (body.length : Int))), .bool false, .int .i64 ttl, .slice A2 m cap2] 25)) w4 := grown_below (w3row.alloc _) (by have := w3k.size; simp; omega) hgrow; have k4 := (k2.alloc (.cells #[.int .u32 (src : Int), .int .u32 (dst : Int), .int .i64 proto, .int .i64 id, .int .i64 (os : Int), .bool (decide ((os : Int) + (m : Int) < (body.length : Int))), .bool false, .int .i64 ttl, .slice A2 m cap2] 25)).below hbel (by omega); have hc4 := k4.cell 0; have hf4 := k4.frozen 0; have Hg := hid hgrow; have Ho := hid hown'; have Hbel := hid hbel; have K4 := hid k4; clear hgrow hown' hbel k4))
    have q1 : Below (w.heap.size + 5) W w4 := ((w3k.mono h7).alloc (by have := w3k.size; omega) _).trans Hbel.out
    have q2 : Below w.heap.size W (w4.setCell ⟨w.heap.size + 2, 0, none⟩ (.slice A5 (qs.length + 1) c5)) := (q1.mono (by omega)).setCell (p := ⟨w.heap.size + 2, 0, none⟩) (by simp) _
    have q3 : ∀ {v : Value} {bs : List UInt8}, OwnBs w3 (w.heap.size + 5) 5 v bs → OwnBs (w4.setCell ⟨w.heap.size + 2, 0, none⟩ (.slice A5 (qs.length + 1) c5)) (w.heap.size + 5) 5 v bs :=
      fun ho => row_far (ownBs_app (ho.alloc _) (w3row.alloc _) (by decide) Hg.out) (by omega) 0 _
    refine ⟨((((keeps_below w3k).trans (KeepsOthers.alloc _ _)).trans (KeepsOthers.of_grownBy Hg.out (row_own (w3row.alloc _)))).trans (KeepsOthers.setCell _ _ _)).from _, ⟨q2, fun g hg1 hg2 => ?_⟩, _, K4.out.set_ 0 _, qs ++ [(partOf (⟨src, dst, proto, id, 0, false, whole, ttl, body⟩ : Pk) size pre.length x, .slice A2 m cap2)], ⟨fun q hq => ?_, ?_⟩, ?_, (h4.below q1 (by omega)).far (by simp <;> omega) _, (h5.below q1 (by omega)).far (by simp <;> omega) _, h6.trans q2, by have := q1.size; simp; omega⟩
    · exact (Below.heap_setCell w4 _ _ g (by simp; omega)).trans (q1.block g hg2)
    · rcases List.mem_append.1 hq with hq | hq
      · exact q3 ((h2.1 q hq).below w3k)
      · obtain rfl : q = _ := by simpa using hq
        have hbd : (partOf (⟨src, dst, proto, id, 0, false, whole, ttl, body⟩ : Pk) size pre.length x).body = rb := hrb
        rw [hbd]
        exact q3 w3o
    · rw [pkRow_snoc, hpart.out, List.length_append]
      exact row_far Ho.out (by omega) 0 _
    · rw [List.map_append, h3, partsOf_snoc]
      rfl
  case done =>
    rintro D ys W hD rfl ⟨v, qs, h1, h2, h3, h4, h5, h6, h7⟩ hK
    have hc := h1.cell 0
    go_wp2
    refine ⟨by simp, .inl ⟨_, _, rfl, run_takeDeferred hK, ?_⟩⟩
    exact ⟨_, results_tmp2 rfl _ _ _, v, rfl, ⟨qs, ⟨fun q hq => OwnBs.mono (base := w.heap.size + 5) (ownsRow_putObj (h2.1 q hq) _ hK rfl) (by omega), own_mono (ownsRow_putObj h2.2 _ hK rfl) (by omega)⟩, h3⟩, h6.trans (belowK_b (w := w) (Nat.le_refl _) W D _ _ (by omega) hK rfl rfl)⟩
end Go.Proofs.Ytbjiicnagfeciaa
