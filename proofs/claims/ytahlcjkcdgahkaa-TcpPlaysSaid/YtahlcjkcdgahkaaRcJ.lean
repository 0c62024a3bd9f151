/- What the document's connection sends again. -/
import Derived.Test.YtahlcjkcdgahkaaRcI
namespace Go.Proofs.Ytahlcjkcdgahkaa
open Go Go.RowKit
attribute [local go_sem ↓] Go.wp_at_zero Go.wp_at_succ
set_option maxRecDepth 100000
set_option linter.unusedSimpArgs false

/-- a segment of the document's, its cells written out -/
theorem rsegc_at (base g : Nat) (c : TConn) (qm : Nat) (F : Nat → Prop) (seq : Nat) (flags : Int) (v : Value) (data : List UInt8) (q : Nat) (wn : Int) (w : World) (h : RConn w base g c qm F) (hr : c.inn.ready.length ≤ 16384) (hw : 16384 - (c.inn.ready.length : Int) = wn) (hd : Bs w v data) (hq : data.length = q) (hl : q ≤ 100000) :
    Calls Try.prog 68 #[.pointer (some ⟨g, 0, none⟩), .int .u32 (seq : Int), .int .i64 flags, v] w fun e w' => ∃ A c', e = .returned (.agg #[.int .i64 c.src, .int .i64 c.dst, .int .u32 (seq : Int), .int .u32 (c.inn.r : Int), .int .i64 flags, .int .i64 wn, .int .i64 0, .slice A q c']) ∧ OwnBs w' w.heap.size 5 (.slice A q c') data ∧ Below w.heap.size w w' := by
  subst hw
  obtain ⟨own, owe, gv, lt, vi, vo, vs, h1, h2⟩ := h
  obtain ⟨A, cap, rfl⟩ : ∃ A c2, vi = .slice A c.inn.ready.length c2 := by obtain ⟨_, A, c2, rfl, _⟩ := h1.inn.rowN; exact ⟨A, c2, rfl⟩
  refine (rsegment_at g c.dst c.src c.inn.r c.inn.ready.length A cap seq flags v data w hr (h1.tab.cell 0) (h1.tab.cell 1) (h1.tab.cell 3) (h1.tab.cell 6) hd (by omega)).mono ?_
  rintro e w' ⟨v', rfl, ho, hb⟩
  obtain ⟨A, c', rfl⟩ := slice_len ho.bs hq
  exact ⟨A, c', rfl, ho, hb⟩
theorem rway_law {c : TConn} (hb : BaseOk c) (hs : c.state = 2 ∨ c.state = 3 ∨ c.state = 4) : rWay c.state c.out.u c.out.n c.out.fin = c.out.sent := by
  unfold rWay TOut.sent
  rw [if_neg (by omega), hb.base hs]
def RSgsPost (base g : Nat) (l : List TSeg) (c : TConn) (q : Nat) (F : Nat → Prop) (w : World) (e : Ending) (w' : World) : Prop := ∃ v', e = .returned v' ∧ OwnRgL w' w.heap.size v' l ∧ RConn w' base g c q F ∧ Frame F w w'
/-- the next number is another -/
theorem RConn.n_ {w : World} {base g : Nat} {c : TConn} {q : Nat} {F : Nat → Prop} (h : RConn w base g c q F) (n : Nat) : RConn (w.setCell ⟨g, 5, none⟩ (.int .u32 (n : Int))) base g { c with out := { c.out with n := n } } q F := by
  obtain ⟨a1, a2, a3, a4, a5, a6, a7, h1, h2⟩ := h
  exact ⟨a1, a2, a3, a4, a5, a6, a7, h1.set1 5 _, h2.early, h2.own, h2.owe, h2.gv, h2.len, h2.num⟩
set_option maxHeartbeats 4000000 in
theorem ragain_any (base g : Nat) (c : TConn) (qm : Nat) (F : Nat → Prop) (w : World) (h : RConn w base g c qm F) (hi : InOk c.inn) (ho : OutOk c) (hb : BaseOk c) (hs : c.state = 2 ∨ c.state = 3 ∨ c.state = 4) :
    Calls Try.prog 69 #[.pointer (some ⟨g, 0, none⟩)] w (RSgsPost base g (tResent c).1 (tResent c).2 qm F w) := by
  have H := hid h
  obtain ⟨own, owe, gv, lt, vi, vo, vs, h, h2⟩ := h
  obtain ⟨n, hn⟩ : ∃ n, c.out.bytes.length = n := ⟨_, rfl⟩
  obtain ⟨A, cap, rfl⟩ : ∃ A c', vs = .slice A n c' := by rw [← hn]; obtain ⟨_, A, c', rfl, _⟩ := h.snt.rowN; exact ⟨A, c', rfl⟩
  have hcap : n ≤ cap := by obtain ⟨_, _, _, hv, h1, _⟩ := h.snt.rowN; injection hv with _ _ e3; omega
  have hn65 : n ≤ 65536 := by rw [← hn]; exact ho.len
  have HA := hid h
  have c4 : w.cell? ⟨g, 4, none⟩ = some (.int .u32 (c.out.u : Int)) := h.tab.cell 4
  have c5 : w.cell? ⟨g, 5, none⟩ = some (.int .u32 (c.out.n : Int)) := h.tab.cell 5
  have c10 : w.cell? ⟨g, 10, none⟩ = some (.slice A n cap) := h.tab.cell 10
  have c12 : w.cell? ⟨g, 12, none⟩ = some (.int .i64 c.out.m) := h.tab.cell 12
  have c14 : w.cell? ⟨g, 14, none⟩ = some (.bool c.out.fin) := h.tab.cell 14
  have z5 := h.tab.frozen 5
  have HB := hid (show Bs w (.slice A n cap) c.out.bytes by have := h.snt.rowN; rw [hn] at this; unfold Bs; rw [hn]; exact this)
  obtain ⟨k, hk⟩ : ∃ k : Nat, c.out.sent = k := ⟨c.out.sent.toNat, by have := ho.sent0; omega⟩
  have HWy := hid (show ∀ j, Calls Try.prog 70 #[.pointer (some ⟨g, 0, none⟩)] (w.drewN j) fun e w' => e = .returned (.int .i64 (k : Int)) ∧ ∃ q, w' = (w.drewN j).drewN q from fun j => by rw [← hk, ← rway_law hb hs]; exact rway_at g c.state c.out.u c.out.n c.out.fin (w.drewN j) ho.u ho.n (h.tab.cell 2) c4 c5 c14)
  have hkn : k ≤ n := by have := ho.sent1; rw [hk, hn] at this; omega
  have Hk := hid hk
  have Hn := hid hn
  have Hrl := hid hi.len
  have Ho := hid ho
  have Hb := hid hb
  obtain ⟨mm, hmm⟩ : ∃ mm : Nat, c.out.m = mm := ⟨c.out.m.toNat, by have := ho.m0; omega⟩
  have hm1 : 64 ≤ mm ∧ mm ≤ 1460 := by have := ho.m0; have := ho.m1; omega
  rw [hmm] at c12
  have Hmm := hid hmm
  obtain ⟨wn, hwn⟩ : ∃ x : Int, 16384 - (c.inn.ready.length : Int) = x := ⟨_, rfl⟩
  have Hwn := hid hwn
  obtain ⟨fi, hfi⟩ : ∃ x, c.out.fin = x := ⟨_, rfl⟩
  have Hfi := hid hfi
  have Hfs := hid (show fi = true → c.out.u ≠ c.out.n from fun e => by have := ho.fin (hfi.trans e); exact (hb.fin (by omega)).2)
  have Hnl := hid ho.n
  rw [hfi] at c14
  clear h h2 hn hk hi ho hmm hwn hb hs hfi
  obtain ⟨q, hq⟩ : ∃ q, min mm k = q := ⟨_, rfl⟩
  have Hq := hid hq
  have hqI : (if k < mm then (k : Int) else (mm : Int)) = (q : Int) := by split <;> omega
  have HqI := hid hqI
  clear hqI
  have hqn : q ≤ n := by omega
  have t5 : q ≤ cap := by omega
  have t3 : (0 : Int) ≤ (q : Int) := by omega
  have t4 : (q : Int) ≤ (cap : Int) := by omega
  clear hq
  by_cases hk0 : 0 < k
  · have hq0 : 0 < q := by have := Hq.out; omega
    have Hr := hid (show tResent c = ([tSegment c c.out.u 16 (c.out.bytes.take q)], c) by
      unfold tResent
      rw [if_pos (by rw [Hk.out]; omega), Hk.out, Hmm.out, show (min (k : Int) (mm : Int)).toNat = q by rw [← Hq.out]; omega])
    have hpos : 0 < (if k < mm then (k : Int) else (mm : Int)) := by rw [HqI.out]; omega
    go_enter Try.func69, Try.ntmps69
    go_upto_region 1 with fail
    go_quiet ((go_at_call 70; exact Calls.quiet_of (HWy.out _)))
    have Hz := hid (H.out.drewN nq)
    have Hzf := hid (show Frame F w (w.drewN nq) from Below.frameF (below_drewN (Below.refl _ _) nq) F)
    have HBS := hid (show Bs (w.drewN nq) (.slice A q cap) (c.out.bytes.take q) from (HB.out.drewN nq).take_ (by rw [Hn.out]; omega))
    have Hql := hid (show (c.out.bytes.take q).length = q by rw [List.length_take, Hn.out]; omega)
    have HK := hid (show ∀ wy, Below (w.drewN nq).heap.size (w.drewN nq) wy → wy.cell? ⟨g, 4, none⟩ = some (.int .u32 (c.out.u : Int)) ∧ wy.cell? ⟨g, 10, none⟩ = some (.slice A n cap) from fun wy hb => ⟨cell_below hb c4, cell_below hb c10⟩)
    have Hsz := hid (show w.heap.size ≤ (w.drewN nq).heap.size from Nat.le_refl _)
    clear HWy HB c4 c5 c10 c12 c14 z5
    generalize w.drewN nq = wz at *
    have fin : ∀ (w2 : World) (A2 : Option Addr) (cap2 : Nat), Below wz.heap.size wz w2 → OwnBs w2 wz.heap.size 5 (.slice A2 q cap2) (c.out.bytes.take q) → RSgsPost base g (tResent c).1 (tResent c).2 qm F w (.returned (.slice (some ⟨w2.heap.size, 0, none⟩) 1 1)) (w2.alloc (.cells #[.int .i64 c.src, .int .i64 c.dst, .int .u32 (c.out.u : Int), .int .u32 (c.inn.r : Int), .int .i64 16, .int .i64 wn, .int .i64 0, .slice A2 q cap2] 51)) := by
      intro w2 A2 cap2 hb ho2
      rw [Hr.out, ← Hwn.out]
      have h1 := OwnRgs.one (s := tSegment c c.out.u 16 (c.out.bytes.take q)) (ho2.mono Hsz.out) (Nat.le_trans Hsz.out hb.size)
      exact ⟨_, rfl, ⟨_, h1, rfl⟩, Hz.out.keep (below_alloc' hb _), Hzf.out.trans (Below.frameF (below_alloc' hb _) F) (fun _ _ h => h)⟩
    have Hfin := hid fin
    clear fin
    go_upto_region 3 with fail
    rw [HqI.out]
    go_region_held3 (fun wy => Below wz.heap.size wz wy ∧ wy.cell? ⟨g, 4, none⟩ = some (.int .u32 (c.out.u : Int)) ∧ wy.cell? ⟨g, 10, none⟩ = some (.slice A n cap)) (first | exact ⟨(by first | exact Below.refl _ _ | exact below_drew _ | exact Hb2.out | exact below_alloc' Hb2.out _), HK.out _ (by first | exact Below.refl _ _ | exact below_drew _ | exact Hb2.out | exact below_alloc' Hb2.out _)⟩) (first
      | (go_at_call 68; (with_reducible refine (rsegc_at base g c qm F c.out.u 16 (.slice A q cap) (c.out.bytes.take q) q wn _ (by first | exact Hz.out | exact Hz.out.keep (below_drew _)) Hrl.out Hwn.out (by first | exact HBS.out | exact HBS.out.drew) Hql.out (by omega)).mono ?_); rintro e w2 ⟨A2, cap2, rfl, hown, hb1⟩; have Hb2 := hid (show Below wz.heap.size wz w2 from by first | exact hb1 | exact (below_drew wz).trans hb1); have Ho2 := hid (show OwnBs w2 wz.heap.size 5 (.slice A2 q cap2) (c.out.bytes.take q) from hown); clear hown hb1)
      | fail)
    all_goals
      go_wp2_with fail
      go_ret
      exact Hfin.out _ _ _ Hb2.out Ho2.out
  · have Hk0 := hid (show k = 0 by omega)
    have hneg : ¬ 0 < (if k < mm then (k : Int) else (mm : Int)) := by rw [HqI.out]; have := Hq.out; omega
    clear hk0
    cases fi with
    | true =>
      obtain ⟨n1, hn1⟩ : ∃ x, mSub c.out.n 1 = x := ⟨_, rfl⟩
      have hn1I : ((c.out.n : Int) - 1) % 4294967296 = (n1 : Int) := by rw [← hn1]; unfold mSub; omega
      have Hr := hid (show tResent c = ([tSegment c n1 17 []], c) by
        unfold tResent
        rw [if_neg (by rw [Hk.out, Hk0.out]; omega), if_pos ⟨Hfi.out, Hfs.out rfl⟩, hn1])
      clear hn1
      go_enter Try.func69, Try.ntmps69
      go_upto_region 1 with fail
      go_quiet ((go_at_call 70; exact Calls.quiet_of (HWy.out _)))
      have Hz := hid (H.out.drewN nq)
      have Hzf := hid (show Frame F w (w.drewN nq) from Below.frameF (below_drewN (Below.refl _ _) nq) F)
      have HG := hid (rsegc_at base g c qm F n1 17 (.slice none 0 0) [] 0 wn _ Hz.out Hrl.out Hwn.out (Bs.nil _) rfl (by omega))
      have Hsz := hid (show w.heap.size ≤ (w.drewN nq).heap.size from Nat.le_refl _)
      clear HWy HB c4 c10 c12
      go_wp2_with (go_at_call 68; (refine HG.out.mono ?_); rintro e w2 ⟨A2, cap2, rfl, hown, hb1⟩; have Hb2 := hid hb1; have Ho2 := hid hown; clear hown hb1)
      go_ret
      rw [Hr.out, ← Hwn.out]
      have h1 := OwnRgs.one (s := tSegment c n1 17 []) (Ho2.out.mono Hsz.out) (Nat.le_trans Hsz.out Hb2.out.size)
      exact ⟨_, rfl, ⟨_, h1, rfl⟩, Hz.out.keep (below_alloc' Hb2.out _), Hzf.out.trans (Below.frameF (below_alloc' Hb2.out _) F) (fun _ _ h => h)⟩
    | false =>
      by_cases hn0 : 0 < n
      · have hn0I : (0 : Int) < (n : Int) := by omega
        obtain ⟨n1, hn1⟩ : ∃ x, (c.out.n + 1) % 4294967296 = x := ⟨_, rfl⟩
        have hn1I : ((c.out.n : Int) + 1) % 4294967296 = (n1 : Int) := by omega
        have Hr := hid (show tResent c = ([tSegment c c.out.u 16 (c.out.bytes.take 1)], { c with out := { c.out with n := n1 } }) by
          unfold tResent
          rw [if_neg (by rw [Hk.out, Hk0.out]; omega), if_neg (by rw [Hfi.out]; simp), if_pos (by unfold TOut.left; rw [Hk.out, Hk0.out, Hn.out]; omega), hn1])
        have hc1 : (1 : Int) ≤ (cap : Int) := by omega
        have hc2 : 1 ≤ cap := by omega
        clear hn1
        go_enter Try.func69, Try.ntmps69
        go_upto_region 1 with fail
        go_quiet ((go_at_call 70; exact Calls.quiet_of (HWy.out _)))
        go_upto_region 8 with fail
        have hz0 := H.out.drewN nq
        have Hz := hid (hz0.n_ n1)
        have Hzf := hid (show Frame F w ((w.drewN nq).setCell ⟨g, 5, none⟩ (.int .u32 (n1 : Int))) from (Below.frameF (below_drewN (Below.refl _ _) nq) F).trans (hz0.fset 5 _) (fun _ _ h => h))
        have hx := (HA.out.drewN nq).set1 5 (.int .u32 (n1 : Int))
        have hby : Bs ((w.drewN nq).setCell ⟨g, 5, none⟩ (.int .u32 (n1 : Int))) (.slice A n cap) c.out.bytes := by have := hx.snt.rowN; rw [Hn.out] at this; unfold Bs; rw [Hn.out]; exact this
        have HBS := hid (hby.take_ (k := 1) (by rw [Hn.out]; omega))
        have Hql := hid (show (c.out.bytes.take 1).length = 1 by rw [List.length_take, Hn.out]; omega)
        have e4 : ((w.drewN nq).setCell ⟨g, 5, none⟩ (.int .u32 (n1 : Int))).cell? ⟨g, 4, none⟩ = some (.int .u32 (c.out.u : Int)) := hx.tab.cell 4
        have e10 : ((w.drewN nq).setCell ⟨g, 5, none⟩ (.int .u32 (n1 : Int))).cell? ⟨g, 10, none⟩ = some (.slice A n cap) := hx.tab.cell 10
        have Hsz := hid (show w.heap.size ≤ ((w.drewN nq).setCell ⟨g, 5, none⟩ (.int .u32 (n1 : Int))).heap.size from Hzf.out.size)
        clear HWy HB c4 c5 c10 c12 c14 z5 hz0 hx hby HA
        generalize (w.drewN nq).setCell ⟨g, 5, none⟩ (.int .u32 (n1 : Int)) = wz at *
        have HK := hid (show ∀ wy, Below wz.heap.size wz wy → wy.cell? ⟨g, 4, none⟩ = some (.int .u32 (c.out.u : Int)) ∧ wy.cell? ⟨g, 10, none⟩ = some (.slice A n cap) from fun wy hb => ⟨cell_below hb e4, cell_below hb e10⟩)
        clear e4 e10
        have fin : ∀ (w2 : World) (A2 : Option Addr) (cap2 : Nat), Below wz.heap.size wz w2 → OwnBs w2 wz.heap.size 5 (.slice A2 1 cap2) (c.out.bytes.take 1) → RSgsPost base g (tResent c).1 (tResent c).2 qm F w (.returned (.slice (some ⟨w2.heap.size, 0, none⟩) 1 1)) (w2.alloc (.cells #[.int .i64 c.src, .int .i64 c.dst, .int .u32 (c.out.u : Int), .int .u32 (c.inn.r : Int), .int .i64 16, .int .i64 wn, .int .i64 0, .slice A2 1 cap2] 51)) := by
          intro w2 A2 cap2 hb ho2
          rw [Hr.out, ← Hwn.out]
          have h1 := OwnRgs.one (s := tSegment c c.out.u 16 (c.out.bytes.take 1)) (ho2.mono Hsz.out) (Nat.le_trans Hsz.out hb.size)
          exact ⟨_, rfl, ⟨_, h1, rfl⟩, Hz.out.keep (below_alloc' hb _), Hzf.out.trans (Below.frameF (below_alloc' hb _) F) (fun _ _ h => h)⟩
        have Hfin := hid fin
        clear fin
        go_region_held3 (fun wy => Below wz.heap.size wz wy ∧ wy.cell? ⟨g, 4, none⟩ = some (.int .u32 (c.out.u : Int)) ∧ wy.cell? ⟨g, 10, none⟩ = some (.slice A n cap)) (first | exact ⟨(by first | exact Below.refl _ _ | exact below_drew _ | exact Hb2.out | exact below_alloc' Hb2.out _), HK.out _ (by first | exact Below.refl _ _ | exact below_drew _ | exact Hb2.out | exact below_alloc' Hb2.out _)⟩) (first
          | (go_at_call 68; (with_reducible refine (rsegc_at base g { c with out := { c.out with n := n1 } } qm F c.out.u 16 (.slice A 1 cap) (c.out.bytes.take 1) 1 wn _ (by first | exact Hz.out | exact Hz.out.keep (below_drew _)) Hrl.out Hwn.out (by first | exact HBS.out | exact HBS.out.drew) Hql.out (by omega)).mono ?_); rintro e w2 ⟨A2, cap2, rfl, hown, hb1⟩; have Hb2 := hid (show Below wz.heap.size wz w2 from by first | exact hb1 | exact (below_drew wz).trans hb1); have Ho2 := hid (show OwnBs w2 wz.heap.size 5 (.slice A2 1 cap2) (c.out.bytes.take 1) from hown); clear hown hb1)
          | fail)
        all_goals
          go_wp2_with fail
          go_ret
          exact Hfin.out _ _ _ Hb2.out Ho2.out
      · have hn00 : n = 0 := by omega
        subst hn00
        have Hr := hid (show tResent c = ([], c) by
          unfold tResent
          rw [if_neg (by rw [Hk.out, Hk0.out]; omega), if_neg (by rw [Hfi.out]; simp), if_neg (by unfold TOut.left; rw [Hk.out, Hk0.out, Hn.out]; omega)])
        go_enter Try.func69, Try.ntmps69
        go_upto_region 1 with fail
        go_quiet ((go_at_call 70; exact Calls.quiet_of (HWy.out _)))
        go_wp2_with fail
        go_ret
        rw [Hr.out]
        exact ⟨_, rfl, OwnRgL.nil _ _, H.out.drewN nq, Below.frameF (below_drewN (Below.refl _ _) nq) F⟩
end Go.Proofs.Ytahlcjkcdgahkaa
