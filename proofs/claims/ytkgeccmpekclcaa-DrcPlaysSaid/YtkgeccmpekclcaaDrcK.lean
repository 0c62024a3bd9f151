/- A table's Begin: a new call where there is room. -/
import Derived.Test.YtkgeccmpekclcaaDrcJ
namespace Go.Proofs.Ytkgeccmpekclcaa
open Go Go.RowKit
attribute [local go_sem ↓] Go.wp_at_zero Go.wp_at_succ
set_option maxRecDepth 100000

theorem ptrok : ElemOk Try.prog 60 63 (.pointer none) 1 8 := by
  obtain ⟨i, hi, hz, hs, hb⟩ := info_parts ptrinfo
  exact ⟨Try.underlying60, ⟨i, hi, hz, hs, hb⟩, rfl, by decide, by decide⟩

theorem Spares.of {w w' : World} {S : TypeId → Prop} (os : w'.os = w.os) (tape : w'.tape = w.tape) (output : w'.output = w.output) (size : w.heap.size ≤ w'.heap.size) (h : KeepsT w w' S) (hs : ∀ t, t ≠ 62 → t ≠ 63 → t ≠ 65 → S t) : Spares w w' :=
  ⟨os, tape, output, size, fun k cs t mk hk h1 h2 h3 => h k cs t mk hk (hs t h1 h2 h3)⟩
set_option maxHeartbeats 2000000 in
theorem begin_new (base gT n m : Nat) (l : List DCall) (k : DKey) (w : World) (h : TabInv w base gT n m l) (hb : base ≤ w.heap.size) (hk : k.Ok) (hc : l.find? (fun c => decide (c.key = k)) = none) (hn : l.length ≠ n) (hn2 : n ≤ 256) (hln : l.length ≤ n) (hm : m < 100000) :
    Calls Try.prog 9 #[ptrV (some gT), k.val] w (BeginPost base gT n m l k w) := by
  have Hr := hid (show drcBegin n l k = ((1, []), l ++ [⟨k, false, []⟩]) by unfold drcBegin; rw [hc]; simp only [if_neg hn])
  obtain ⟨L, vr, gM, f, rfl, h⟩ := h
  rw [List.length_map] at hn hln
  obtain ⟨kl, hkl⟩ : ∃ kl, keyOf Try.prog 33 k.val = some kl := dkey_of k hk
  have hf : f k.val = none := h.miss k (find_miss hc)
  have Hmiss := hid (find_miss hc)
  have K1 := hid (h.keep (below_alloc w (.cells k.cells.toArray 33)))
  have hkb := Blk.new w 33 k.cells.toArray
  have hlook : ∀ q, (Instr.lookup 59 (.map (some gM)) k.val false).run Try.prog ((w.alloc (.cells k.cells.toArray 33)).drewN q) = .ok (ptrV none) ((w.alloc (.cells k.cells.toArray 33)).drewN q) := fun q => by
    rw [(K1.out.map.drewN q).look dkeyed Try.underlying59 (ptrzero _) hkl, hf]
  obtain ⟨_, A, cap, hv, _, _, _⟩ := RowN.of_own h.row
  rw [List.length_map] at hv
  subst hv
  have hc2 : (w.alloc (.cells k.cells.toArray 33)).cell? ⟨gT, 2, none⟩ = some (.map (some gM)) := K1.out.tab.cell 2
  have Hb := hid hb
  have Hk := hid hk
  have Hkl := hid hkl
  have hnI : ((L.length : Int) == (n : Int)) = false := by simp; omega
  have Hn := hid hn
  clear hkl hf hc hk hb hn
  obtain ⟨k1, k2, k3, k4, k5⟩ := k
  dsimp only [DKey.val, DKey.cells] at *
  unfold ptrV at hlook ⊢
  go_enter Try.func9, Try.ntmps9
  go_upto_region 1 with (fail)
  go_quiet (fail)
  have Kq := hid (K1.out.drewN nq)
  have HBq := hid (below_drewN (below_alloc w (.cells #[.int .u32 (k1 : Int), .int .i64 k2, .int .u32 (k3 : Int), .int .u32 (k4 : Int), .int .u32 (k5 : Int)] 33)) nq)
  have hkq := hkb.drewN nq
  generalize (w.alloc (.cells #[.int .u32 (k1 : Int), .int .i64 k2, .int .u32 (k3 : Int), .int .u32 (k4 : Int), .int .u32 (k5 : Int)] 33)).drewN nq = wq at Kq HBq hkq ⊢
  have c0 := Kq.out.tab.cell 0
  have c1 := Kq.out.tab.cell 1
  clear hc2 hlook hkb
  go_upto_region 6 with (fail)
  go_quiet (fail)
  have HB2 := hid (below_drewN HBq.out nq)
  have K2 := hid (Kq.out.drewN nq)
  have Hkr := hid (hkq.drewN nq)
  have c1 : (wq.drewN nq).cell? ⟨gT, 1, none⟩ = some (.slice A L.length cap) := c1
  have d0 := Hkr.out.cell 0
  have d1 := Hkr.out.cell 1
  have d2 := Hkr.out.cell 2
  have d3 := Hkr.out.cell 3
  have d4 := Hkr.out.cell 4
  clear c0 hkq
  generalize wq.drewN nq = wr at K2 HB2 Hkr c1 d0 d1 d2 d3 d4 ⊢
  have c1a := ((K2.out.tab.alloc (.cells #[.int .u32 (k1 : Int), .int .i64 k2, .int .u32 (k3 : Int), .int .u32 (k4 : Int), .int .u32 (k5 : Int), .bool false, .slice none 0 0] 65))).cell 1
  go_upto_region 14 with ((with_reducible show wpList _ _ _ (Oper.mk (some 78) _ _ _ _ _ :: _) _ _); refine wpList_app _ rfl _ _ 60 rfl base 63 (.pointer none) 1 8 ptrok _ _ _ rfl (own_below K2.out.row (below_alloc' (below_alloc wr _) _)) (.slice (some ⟨_, 0, none⟩) 1 1) 1 [ptrV (some wr.heap.size)] rfl (rowS_lit 1 _ 1 _ rfl (by simp) (by simp [maxLen])) (by simp [ptrV, Value.oneCell']) (by simp; omega) (by simp [maxLen]; omega) (by have := HB2.out.size; have := Hb.out; simp; omega) ?_; intro v5 w5 hown5 hg5 hat5; clear hat5; rw [List.length_map] at hown5; obtain ⟨_, A5, cap5, rfl, _⟩ := RowN.of_own hown5; have hKs := app_keepsT (own_below K2.out.row (below_alloc' (below_alloc wr (.cells #[.int .u32 (k1 : Int), .int .i64 k2, .int .u32 (k3 : Int), .int .u32 (k4 : Int), .int .u32 (k5 : Int), .bool false, .slice none 0 0] 65)) (.cells #[ptrV (some wr.heap.size)] 63))) hg5; have tab5 := hKs.blk ((K2.out.tab.alloc (.cells #[.int .u32 (k1 : Int), .int .i64 k2, .int .u32 (k3 : Int), .int .u32 (k4 : Int), .int .u32 (k5 : Int), .bool false, .slice none 0 0] 65)).alloc (.cells #[ptrV (some wr.heap.size)] 63)) (by decide); have key5 := hKs.blk ((Hkr.out.alloc (.cells #[.int .u32 (k1 : Int), .int .i64 k2, .int .u32 (k3 : Int), .int .u32 (k4 : Int), .int .u32 (k5 : Int), .bool false, .slice none 0 0] 65)).alloc (.cells #[ptrV (some wr.heap.size)] 63)) (by decide); have c1b := tab5.cell 1; have z1b := tab5.frozen 1; have c2b := tab5.cell 2; have e0 := key5.cell 0; have e1 := key5.cell 1; have e2 := key5.cell 2; have e3 := key5.cell 3; have e4 := key5.cell 4; have HKs := hid hKs; have Hg5 := hid hg5; have Tab5 := hid tab5; have Hown5 := hid hown5; clear hKs hg5 tab5 key5 hown5)
  have hgt : w5.grownBy (w5.setCell ⟨gT, 1, none⟩ (.slice A5 (L.length + 1) cap5)) (some gT) := grown_set _ _ _ _
  have Tabt := hid (Tab5.out.set_ 1 (.slice A5 (L.length + 1) cap5))
  have Ka : KeepsT wr w5 (· ≠ 63) := (Below.keepsT (below_alloc' (below_alloc wr (.cells #[.int .u32 (k1 : Int), .int .i64 k2, .int .u32 (k3 : Int), .int .u32 (k4 : Int), .int .u32 (k5 : Int), .bool false, .slice none 0 0] 65)) (.cells #[ptrV (some wr.heap.size)] 63)) _).trans HKs.out
  have Kc := store_keepsT hgt Tab5.out
  have hrow2 := own_below K2.out.row (below_alloc' (below_alloc wr (.cells #[.int .u32 (k1 : Int), .int .i64 k2, .int .u32 (k3 : Int), .int .u32 (k4 : Int), .int .u32 (k5 : Int), .bool false, .slice none 0 0] 65)) (.cells #[ptrV (some wr.heap.size)] 63))
  have hmt := ((K2.out.map.keep (below_alloc' (below_alloc wr (.cells #[.int .u32 (k1 : Int), .int .i64 k2, .int .u32 (k3 : Int), .int .u32 (k4 : Int), .int .u32 (k5 : Int), .bool false, .slice none 0 0] 65)) (.cells #[ptrV (some wr.heap.size)] 63))).app hrow2 Hg5.out).store Tab5.out hgt
  have HB5 : Below base w w5 := (((HB2.out.mono Hb.out).trans ((below_alloc' (below_alloc wr (.cells #[.int .u32 (k1 : Int), .int .i64 k2, .int .u32 (k3 : Int), .int .u32 (k4 : Int), .int .u32 (k5 : Int), .bool false, .slice none 0 0] 65)) (.cells #[ptrV (some wr.heap.size)] 63)).mono (Nat.le_trans Hb.out HB2.out.size))).grown Hg5.out (by have := HB2.out.size; have := Hb.out; simp; omega) (fun k hk => (World.ownsRow.lt hrow2 k hk).1))
  have HBt := hid (below_own HB5 hgt K2.out.tabB (Nat.le_trans Hb.out HB5.size))
  have hrowt := own_store Hown5.out Tab5.out (by decide) hgt
  have Ht := hid hrowt
  have hnew : Blk (w5.setCell ⟨gT, 1, none⟩ (.slice A5 (L.length + 1) cap5)) wr.heap.size 65 #[.int .u32 (k1 : Int), .int .i64 k2, .int .u32 (k3 : Int), .int .u32 (k4 : Int), .int .u32 (k5 : Int), .bool false, .slice none 0 0].toList := Kc.blk (HKs.out.blk ((Blk.new wr 65 #[.int .u32 (k1 : Int), .int .i64 k2, .int .u32 (k3 : Int), .int .u32 (k4 : Int), .int .u32 (k5 : Int), .bool false, .slice none 0 0]).alloc _) (by decide)) (by decide)
  have Hnew := hid hnew
  have Kt := hid ((Ka.weak (S' := fun t => t ≠ 63 ∧ t ≠ 62) (fun _ h => h.1)).trans (Kc.weak (fun _ h => h.2)))
  have c2t : (w5.setCell ⟨gT, 1, none⟩ (.slice A5 (L.length + 1) cap5)).cell? ⟨gT, 2, none⟩ = some (.map (some gM)) := Tabt.out.cell 2
  have keyt := Kc.blk (HKs.out.blk ((Hkr.out.alloc (.cells #[.int .u32 (k1 : Int), .int .i64 k2, .int .u32 (k3 : Int), .int .u32 (k4 : Int), .int .u32 (k5 : Int), .bool false, .slice none 0 0] 65)).alloc (.cells #[ptrV (some wr.heap.size)] 63)) (by decide)) (by decide)
  have Hmt := hid hmt
  clear c1b z1b c2b e0 e1 e2 e3 e4 HKs Hg5 Tab5 Hown5 hgt Ka Kc hrow2 hmt HB5 hrowt hnew c1 c1a d0 d1 d2 d3 d4
  generalize w5.setCell ⟨gT, 1, none⟩ (.slice A5 (L.length + 1) cap5) = wt at *
  have t0 := keyt.cell 0
  have t1 := keyt.cell 1
  have t2 := keyt.cell 2
  have t3 := keyt.cell 3
  have t4 := keyt.cell 4
  obtain ⟨w6, hrun, hm6, hg6⟩ := Hmt.out.drew.put dkeyed Try.underlying59 (by simp only [maxLen]; omega) Hkl.out wr.heap.size
  have Hm6 := hid hm6
  have Hg6 := hid hg6
  clear hm6 hg6 keyt
  unfold ptrV at hrun
  go_region_law (fail)
  all_goals
    go_wp2_with fail
    go_ret2
    unfold BeginPost
    rw [Hr.out]
    have Ke := map_keepsT Hmt.out.drew Hg6.out (fun t => t ≠ 63 ∧ t ≠ 62)
    have Kall : KeepsT wr w6 (fun t => t ≠ 63 ∧ t ≠ 62) := Kt.out.trans Ke
    have KT := map_keepsT Hmt.out.drew Hg6.out (fun _ => True)
    have HB6 : Below base w w6 := below_own HBt.out.drew Hg6.out K2.out.mapB (by have := HBt.out.size; have := Hb.out; show base ≤ wt.heap.size; omega)
    have hsp : Spares wr w6 := Spares.of (HB6.os.trans HB2.out.os.symm) (HB6.tape.trans HB2.out.tape.symm) (HB6.output.trans HB2.out.output.symm) (Nat.le_of_lt (KT.blk Hnew.out.drew trivial).lt) Kall (fun t h1 h2 _ => ⟨h2, h1⟩)
    refine ⟨_, rfl, OwnBs.nil _ _ _, ⟨_, _, gM, _, ?_, TabAt.push (k := ⟨k1, k2, k3, k4, k5⟩) (KT.blk Tabt.out.drew trivial) K2.out.tabB (KT.row Ht.out trivial) K2.out.nodup (fun hmem => ?_) (by have := HB2.out.size; have := Hb.out; omega) (Its.keeps (fun x hx => K2.out.it x hx) Kall (by decide) (by decide)) (KT.blk Hnew.out.drew trivial) Hm6.out K2.out.mapB K2.out.hit K2.out.miss K2.out.keys K2.out.oks Hk.out Hmiss.out⟩, HB6, (Below.spares HB2.out).trans hsp⟩
    · rw [List.map_append]; rfl
    · obtain ⟨x, hx, hxg⟩ := List.mem_map.1 hmem
      have := (K2.out.it x hx).1.lt
      omega
end Go.Proofs.Ytkgeccmpekclcaa
