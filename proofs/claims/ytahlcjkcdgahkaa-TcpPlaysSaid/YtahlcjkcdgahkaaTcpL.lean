/- What is sent again. -/
import Derived.Test.YtahlcjkcdgahkaaTcpI
import Derived.Test.YtahlcjkcdgahkaaTcpG
namespace Go.Proofs.Ytahlcjkcdgahkaa
open Go Go.RowKit
attribute [local go_sem ↓] Go.wp_at_zero Go.wp_at_succ
set_option maxRecDepth 100000

theorem ConnInv.bytesLen {w : World} {base g : Nat} {c : TConn} {m : Nat} {F : Nat → Prop} (h : ConnInv w base g c m F) : base ≤ w.heap.size := by
  obtain ⟨vr, gM, vb, f, h⟩ := h
  have := h.flt g h.fg
  omega
/-- a segment, its cells written out -/
theorem seg_at (base g : Nat) (c : TConn) (m : Nat) (F : Nat → Prop) (seq : Nat) (flags : Int) (v : Value) (data : List UInt8) (q : Nat) (wn : Int) (w : World) (h : ConnInv w base g c m F) (hr : c.inn.ready.length ≤ 16384) (hw : 16384 - (c.inn.ready.length : Int) = wn) (hd : Bs w v data) (hq : data.length = q) (hl : q ≤ 100000) :
    Calls Try.prog 41 #[.pointer (some ⟨g, 0, none⟩), .int .u32 (seq : Int), .int .i64 flags, v] w fun e w' => ∃ A c', e = .returned (.agg #[.int .i64 c.src, .int .i64 c.dst, .int .u32 (seq : Int), .int .u32 (c.inn.r : Int), .int .i64 flags, .int .i64 wn, .int .i64 0, .slice A q c']) ∧ OwnBs w' w.heap.size 5 (.slice A q c') data ∧ Below w.heap.size w w' := by
  subst hw
  refine (segment_any base g c m F seq flags v data w h hr hd (by omega)).mono ?_
  rintro e w' ⟨v', rfl, ho, hb⟩
  obtain ⟨A, c', rfl⟩ := slice_len ho.bs hq
  exact ⟨A, c', rfl, ho, hb⟩
/-- rows of segments are appended -/
theorem OwnSgs.app {w w' : World} {base : Nat} {v v' : Value} {qs rs : List (TSeg × Value)} (h : OwnSgs w base v qs) (hd : ∀ q ∈ rs, OwnBs w base 5 q.2 q.1.data) (hrow : w'.ownsRow base 30 8 v' (qs.length + rs.length) (sgRow qs ++ sgRow rs)) (hg : w.grownBy w' v.ownBlock) : OwnSgs w' base v' (qs ++ rs) := by
  have keep : ∀ (u : Value) (bs : List UInt8), OwnBs w base 5 u bs → OwnBs w' base 5 u bs := by
    intro u bs ho
    rcases h.row.2 with ⟨rfl, _⟩ | ⟨g, cap, cur, rfl, _, hh, _⟩
    · exact World.ownsRow.kept ho hg (by
        rcases hv : u.ownBlock with _ | g1
        · exact .inl rfl
        · exact .inr (by simp [Value.ownBlock]))
    · exact ownBs_store ho (g := g) (t := 30) (xs := cur.toList) (by unfold Blk; simpa using hh) (by decide) hg
  refine ⟨fun q hq => ?_, ?_⟩
  · rcases List.mem_append.1 hq with hq | hq
    · exact keep _ _ (h.datas q hq)
    · exact keep _ _ (hd q hq)
  · rw [sgRow_append, List.length_append]
    exact hrow
theorem sgRow_one (s : TSeg) (v : Value) : sgRow [(s, v)] = s.cells v := by simp [sgRow]
theorem own_litS {w : World} {base : Nat} {e : TypeId} (size : Nat) (cs : Array Value) (n H : Nat) (hn : cs.size = n * size) (hH : H = w.heap.size) (hb : base ≤ H) (hm : n ≤ maxLen) :
    (w.alloc (.cells cs e)).ownsRow base e size (.slice (some ⟨H, 0, none⟩) n n) n cs.toList := by
  subst hH
  refine ⟨by simpa using hn, .inr ⟨w.heap.size, n, cs, rfl, hb, heap_alloc_new w _, Nat.le_refl _, hm, hn, ?_⟩⟩
  rw [← hn]
  exact List.take_of_length_le (by simp)
/-- a row of one segment, made just now -/
theorem OwnSgs.one {w : World} {base : Nat} {s : TSeg} {v : Value} (h : OwnBs w base 5 v s.data) (hb : base ≤ w.heap.size) : OwnSgs (w.alloc (.cells (s.cells v).toArray 30)) base (.slice (some ⟨w.heap.size, 0, none⟩) 1 1) [(s, v)] := by
  refine ⟨fun q hq => ?_, ?_⟩
  · obtain rfl : q = _ := by simpa using hq
    exact own_below h (below_alloc _ _)
  · rw [sgRow_one]
    exact own_litS 8 (s.cells v).toArray 1 _ rfl rfl hb (by simp [maxLen])
def SgsPost (base g : Nat) (l : List TSeg) (c : TConn) (m : Nat) (F : Nat → Prop) (w : World) (e : Ending) (w' : World) : Prop := ∃ v', e = .returned v' ∧ OwnSgL w' w.heap.size v' l ∧ ConnInv w' base g c m F ∧ Frame F w w'
theorem Bs.take_ {w : World} {A : Option Addr} {n cap k : Nat} {bs : List UInt8} (h : Bs w (.slice A n cap) bs) (hk : k ≤ bs.length) : Bs w (.slice A k cap) (bs.take k) := by
  obtain ⟨hl, A', cap', hv, h1, h2, h3⟩ := h
  injection hv with e1 e2 e3
  subst e1; subst e3
  have e : (bs.take k).length = k := by rw [List.length_take]; omega
  refine ⟨by simp, A, cap, by rw [e], by omega, h2, ?_⟩
  rcases h3 with h3 | ⟨b, off, rfl, hc⟩
  · left; omega
  · refine .inr ⟨b, off, rfl, fun i x hx => hc i x ?_⟩
    rw [List.map_take] at hx
    rw [← hx]
    have := (List.getElem?_eq_some_iff.1 hx).1
    rw [List.getElem?_take_of_lt (by rw [List.length_take] at this; omega)]
set_option maxHeartbeats 4000000 in
theorem resent_any (base g : Nat) (c : TConn) (m : Nat) (F : Nat → Prop) (w : World) (h : ConnInv w base g c m F) (hi : InOk c.inn) (ho : OutOk c) :
    Calls Try.prog 42 #[.pointer (some ⟨g, 0, none⟩)] w (SgsPost base g (tResent c).1 (tResent c).2 m F w) := by
  have H := hid h
  obtain ⟨vr, gM, vb, f, h⟩ := h
  obtain ⟨n, hn⟩ : ∃ n, c.out.bytes.length = n := ⟨_, rfl⟩
  obtain ⟨A, cap, rfl⟩ : ∃ A c', vb = .slice A n c' := by rw [← hn]; obtain ⟨_, A, c', rfl, _⟩ := h.bytes.rowN; exact ⟨A, c', rfl⟩
  have HA := hid h
  have hcap : n ≤ cap := by obtain ⟨_, _, _, hv, h1, _⟩ := h.bytes.rowN; injection hv with _ _ e3; omega
  have hn65 : n ≤ 65536 := by rw [← hn]; exact ho.len
  have c6 : w.cell? ⟨g, 6, none⟩ = some (.int .u32 (c.out.u : Int)) := h.tab.cell 6
  have c7 : w.cell? ⟨g, 7, none⟩ = some (.int .u32 (c.out.n : Int)) := h.tab.cell 7
  have c8 : w.cell? ⟨g, 8, none⟩ = some (.int .u32 (c.out.base : Int)) := h.tab.cell 8
  have c9 : w.cell? ⟨g, 9, none⟩ = some (.slice A n cap) := h.tab.cell 9
  have c11 : w.cell? ⟨g, 11, none⟩ = some (.int .i64 c.out.m) := h.tab.cell 11
  have c15 : w.cell? ⟨g, 15, none⟩ = some (.bool c.out.fin) := h.tab.cell 15
  have z7 := h.tab.frozen 7
  have hby : Bs w (.slice A n cap) c.out.bytes := by have := h.bytes.rowN; rw [hn] at this; unfold Bs; rw [hn]; exact this
  have HB := hid hby
  have HS := hid (sent_at g c.out w ho.n ho.base c7 c8 c15)
  obtain ⟨k, hk⟩ : ∃ k : Nat, c.out.sent = k := ⟨c.out.sent.toNat, by have := ho.sent0; omega⟩
  rw [hk] at HS
  have hkn : k ≤ n := by have := ho.sent1; rw [hk, hn] at this; omega
  have Hk := hid hk
  have Hn := hid hn
  have Hi := hid hi
  have Ho := hid ho
  obtain ⟨mm, hmm⟩ : ∃ mm : Nat, c.out.m = mm := ⟨c.out.m.toNat, by have := ho.m0; omega⟩
  have hm1 : 64 ≤ mm ∧ mm ≤ 1460 := by have := ho.m0; have := ho.m1; omega
  rw [hmm] at c11
  have Hmm := hid hmm
  obtain ⟨wn, hwn⟩ : ∃ x : Int, 16384 - (c.inn.ready.length : Int) = x := ⟨_, rfl⟩
  have Hwn := hid hwn
  clear h hn hk hi ho hmm hwn hby
  by_cases hk0 : 0 < k
  · have t1 : (k : Int) > 0 := by omega
    obtain ⟨q, hq⟩ : ∃ q, min k mm = q := ⟨_, rfl⟩
    have Hq := hid hq
    have hqn : q ≤ n := by omega
    have t3 : (0 : Int) ≤ (q : Int) := by omega
    have t4 : (q : Int) ≤ (cap : Int) := by omega
    have t5 : q ≤ cap := by omega
    have Hr := hid (show tResent c = ([tSegment c c.out.u 16 (c.out.bytes.take q)], c) by
      unfold tResent
      rw [if_pos (by rw [Hk.out]; omega), Hk.out, Hmm.out, show (min (k : Int) (mm : Int)).toNat = q by rw [← Hq.out]; omega])
    clear hq
    go_enter Try.func42, Try.ntmps42
    go_upto_region 3 with (go_at_call 62; refine HS.out.mono ?_; rintro e w' ⟨rfl, q0, rfl⟩)
    have Hz := hid (H.out.keep (below_drewN (Below.refl _ _) q0))
    have Hzf := hid (show Frame F w (w.drewN q0) from Below.frameF (below_drewN (Below.refl _ _) q0) F)
    have hbs : Bs (w.drewN q0) (.slice A q cap) (c.out.bytes.take q) := (HB.out.drewN q0).take_ (by rw [Hn.out]; omega)
    have HBS := hid hbs
    have Hql := hid (show (c.out.bytes.take q).length = q by rw [List.length_take, Hn.out]; omega)
    have Hrl := hid Hi.out.len
    have hm6 : (w.drewN q0).cell? ⟨g, 6, none⟩ = some (.int .u32 (c.out.u : Int)) := c6
    have hm9 : (w.drewN q0).cell? ⟨g, 9, none⟩ = some (.slice A n cap) := c9
    have hm11 : (w.drewN q0).cell? ⟨g, 11, none⟩ = some (.int .i64 (mm : Int)) := c11
    have Hsz := hid (show w.heap.size ≤ (w.drewN q0).heap.size from Nat.le_refl _)
    clear HS hbs c6 c7 c8 c9 c11 c15 z7
    generalize w.drewN q0 = wz at *
    have fin : ∀ (w2 : World) (A2 : Option Addr) (cap2 : Nat), Below wz.heap.size wz w2 → OwnBs w2 wz.heap.size 5 (.slice A2 q cap2) (c.out.bytes.take q) → SgsPost base g (tResent c).1 (tResent c).2 m F w (.returned (.slice (some ⟨w2.heap.size, 0, none⟩) 1 1)) (w2.alloc (.cells #[.int .i64 c.src, .int .i64 c.dst, .int .u32 (c.out.u : Int), .int .u32 (c.inn.r : Int), .int .i64 16, .int .i64 wn, .int .i64 0, .slice A2 q cap2] 30)) := by
      intro w2 A2 cap2 hb ho2
      rw [Hr.out, ← Hwn.out]
      have h1 := OwnSgs.one (s := tSegment c c.out.u 16 (c.out.bytes.take q)) (ho2.mono Hsz.out) (Nat.le_trans Hsz.out hb.size)
      exact ⟨_, rfl, ⟨_, h1, rfl⟩, Hz.out.keep (below_alloc' hb _), Hzf.out.trans (Below.frameF (below_alloc' hb _) F) (fun _ _ h => h)⟩
    have Hfin := hid fin
    clear fin
    by_cases hkm : k ≤ mm
    · obtain rfl : q = k := by have := Hq.out; omega
      have t2 : ¬ mm < q := by omega
      go_region_held3 (fun wy => wy.cell? ⟨g, 6, none⟩ = some (.int .u32 (c.out.u : Int)) ∧ wy.cell? ⟨g, 9, none⟩ = some (.slice A n cap) ∧ wy.cell? ⟨g, 11, none⟩ = some (.int .i64 (mm : Int))) (first | exact ⟨hm6, hm9, hm11⟩ | exact ⟨cell_below (below_drew _) hm6, cell_below (below_drew _) hm9, cell_below (below_drew _) hm11⟩ | exact ⟨cell_below Hb2.out hm6, cell_below Hb2.out hm9, cell_below Hb2.out hm11⟩ | exact ⟨cell_below (below_alloc' Hb2.out _) hm6, cell_below (below_alloc' Hb2.out _) hm9, cell_below (below_alloc' Hb2.out _) hm11⟩) (first
        | (go_at_call 41; (with_reducible refine (seg_at base g c m F c.out.u 16 (.slice A q cap) (c.out.bytes.take q) q wn _ (by first | exact Hz.out | exact Hz.out.keep (below_drew _)) Hrl.out Hwn.out (by first | exact HBS.out | exact HBS.out.drew) Hql.out (by omega)).mono ?_); rintro e w2 ⟨A2, cap2, rfl, hown, hb1⟩; have Hb2 := hid (show Below wz.heap.size wz w2 from by first | exact hb1 | exact (below_drew wz).trans hb1); have Ho2 := hid (show OwnBs w2 wz.heap.size 5 (.slice A2 q cap2) (c.out.bytes.take q) from hown); clear hown hb1)
        | fail)
      all_goals
        go_wp2_with fail
        go_ret
        exact Hfin.out _ _ _ Hb2.out Ho2.out
    · obtain rfl : q = mm := by have := Hq.out; omega
      have t2 : q < k := by omega
      go_region_held3 (fun wy => wy.cell? ⟨g, 6, none⟩ = some (.int .u32 (c.out.u : Int)) ∧ wy.cell? ⟨g, 9, none⟩ = some (.slice A n cap) ∧ wy.cell? ⟨g, 11, none⟩ = some (.int .i64 (q : Int))) (first | exact ⟨hm6, hm9, hm11⟩ | exact ⟨cell_below (below_drew _) hm6, cell_below (below_drew _) hm9, cell_below (below_drew _) hm11⟩ | exact ⟨cell_below Hb2.out hm6, cell_below Hb2.out hm9, cell_below Hb2.out hm11⟩ | exact ⟨cell_below (below_alloc' Hb2.out _) hm6, cell_below (below_alloc' Hb2.out _) hm9, cell_below (below_alloc' Hb2.out _) hm11⟩) (first
        | (go_at_call 41; (with_reducible refine (seg_at base g c m F c.out.u 16 (.slice A q cap) (c.out.bytes.take q) q wn _ (by first | exact Hz.out | exact Hz.out.keep (below_drew _)) Hrl.out Hwn.out (by first | exact HBS.out | exact HBS.out.drew) Hql.out (by omega)).mono ?_); rintro e w2 ⟨A2, cap2, rfl, hown, hb1⟩; have Hb2 := hid (show Below wz.heap.size wz w2 from by first | exact hb1 | exact (below_drew wz).trans hb1); have Ho2 := hid (show OwnBs w2 wz.heap.size 5 (.slice A2 q cap2) (c.out.bytes.take q) from hown); clear hown hb1)
        | fail)
      all_goals
        go_wp2_with fail
        go_ret
        exact Hfin.out _ _ _ Hb2.out Ho2.out
  · obtain rfl : k = 0 := by omega
    obtain ⟨fb, hfb⟩ : ∃ b, (c.out.fin && decide (c.out.u ≠ c.out.n)) = b := ⟨_, rfl⟩
    have Hfb := hid hfb
    have Hrl := hid Hi.out.len
    obtain ⟨n1, hn1⟩ : ∃ x, mSub c.out.n 1 = x := ⟨_, rfl⟩
    have hnL := Ho.out.n
    have hn1I : ((c.out.n : Int) - 1) % 4294967296 = (n1 : Int) := by rw [← hn1]; unfold mSub; omega
    obtain ⟨n2, hn2⟩ : ∃ x, (c.out.n + 1) % 4294967296 = x := ⟨_, rfl⟩
    have hn2I : ((c.out.n : Int) + 1) % 4294967296 = (n2 : Int) := by omega
    have Hn1 := hid hn1
    have Hn2 := hid hn2
    have Hleft := hid (show c.out.left = (n : Int) by unfold TOut.left; rw [Hk.out, Hn.out]; simp)
    have HL := hid (fun q => left_at g c.out A n cap (w.drewN q) Ho.out.n Ho.out.base Hn.out (by omega) c7 c8 c9 c15)
    rw [Hleft.out] at HL
    clear hfb hn1 hn2 hnL
    go_enter Try.func42, Try.ntmps42
    go_upto_region 4 with (go_at_call 62; refine HS.out.mono ?_; rintro e w' ⟨rfl, q0, rfl⟩)
    go_cut [32] from 32 to 51 (fun s wx => s = .bool fb ∧ ∃ q, wx = w.drewN q)
    case first =>
      have hfb := Hfb.out
      cases hf : c.out.fin with
      | false =>
        rw [hf] at c15 hfb
        have e : fb = false := by rw [← hfb]; rfl
        subst e
        clear hf hfb
        go_quiet (fail)
        go_wp2_with fail
        go_meet
        case rel => exact ⟨rfl, _, by rw [World.drewN_drewN]⟩
      | true =>
        rw [hf] at c15 hfb
        have e : (decide (c.out.u ≠ c.out.n)) = fb := by rw [← hfb]; rfl
        have He := hid e
        clear hf hfb e
        go_quiet (fail)
        go_wp2_with fail
        go_meet
        case rel => exact ⟨congrArg Value.bool (by rw [← He.out]; by_cases h : c.out.u = c.out.n <;> simp [h] <;> omega), _, by rw [World.drewN_drewN]⟩
    case rest =>
    obtain ⟨rfl, q1, rfl⟩ := hcut
    clear HS
    cases fb with
    | true =>
      have Hr := hid (show tResent c = ([tSegment c n1 17 []], c) by
        have h := Hfb.out
        simp only [Bool.and_eq_true, decide_eq_true_eq] at h
        unfold tResent
        rw [if_neg (by rw [Hk.out]; decide), if_pos h, Hn1.out])
      have Hz := hid (H.out.keep (below_drewN (Below.refl _ _) q1))
      have Hzf := hid (show Frame F w (w.drewN q1) from Below.frameF (below_drewN (Below.refl _ _) q1) F)
      have hm7 : (w.drewN q1).cell? ⟨g, 7, none⟩ = some (.int .u32 (c.out.n : Int)) := c7
      have Hsz := hid (show w.heap.size ≤ (w.drewN q1).heap.size from Nat.le_refl _)
      have HG := hid (seg_at base g c m F n1 17 (.slice none 0 0) [] 0 wn (w.drewN q1) Hz.out Hrl.out Hwn.out (Bs.nil _) rfl (by omega))
      clear c6 c7 c8 c9 c11 c15 z7 HL
      generalize w.drewN q1 = wz at *
      go_step
      go_wp2_with (go_at_call 41; (refine HG.out.mono ?_); rintro e w2 ⟨A2, cap2, rfl, hown, hb1⟩; have Hb2 := hid hb1; have Ho2 := hid hown; clear hown hb1)
      go_ret
      rw [Hr.out, ← Hwn.out]
      have h1 := OwnSgs.one (s := tSegment c n1 17 []) (Ho2.out.mono Hsz.out) (Nat.le_trans Hsz.out Hb2.out.size)
      exact ⟨_, rfl, ⟨_, h1, rfl⟩, Hz.out.keep (below_alloc' Hb2.out _), Hzf.out.trans (Below.frameF (below_alloc' Hb2.out _) F) (fun _ _ h => h)⟩
    | false =>
      have HNF := hid (show ¬ (c.out.fin = true ∧ c.out.u ≠ c.out.n) from by
        have h := Hfb.out
        intro q
        simp [q.1, q.2] at h)
      go_step
      by_cases hn0 : 0 < n
      · have t1 : (n : Int) > 0 := by omega
        have Hr := hid (show tResent c = ([tSegment c c.out.u 16 (c.out.bytes.take 1)], { c with out := { c.out with n := n2 } }) by
          unfold tResent
          rw [if_neg (by rw [Hk.out]; decide), if_neg HNF.out, if_pos (by rw [Hleft.out]; exact t1), Hn2.out])
        go_upto_region 8 with (go_at_call 44; refine (HL.out _).mono ?_; rintro e w' ⟨rfl, q0, rfl⟩)
        have HAd := HA.out.same (below_drewN (Below.refl w.heap.size w) (q1 + q0))
        have hgs := grown_set (w.drewN (q1 + q0)) g 7 (.int .u32 (n2 : Int))
        have HC := hid (HAd.stored (c' := { c with out := { c.out with n := n2 } }) hgs (HAd.tab.set_ 7 (.int .u32 (n2 : Int))) rfl rfl rfl)
        have Hzf := hid (show Frame F w ((w.drewN (q1 + q0)).setCell ⟨g, 7, none⟩ (.int .u32 (n2 : Int))) from (Below.frameF (below_drewN (Below.refl w.heap.size w) (q1 + q0)) F).trans (Frame.one hgs HAd.fg) (fun _ _ h => h))
        have Hsz := hid (show w.heap.size ≤ ((w.drewN (q1 + q0)).setCell ⟨g, 7, none⟩ (.int .u32 (n2 : Int))).heap.size from hgs.size)
        clear HAd hgs c6 c7 c8 c9 c11 c15 z7 HL
        generalize (w.drewN (q1 + q0)).setCell ⟨g, 7, none⟩ (.int .u32 (n2 : Int)) = wz at *
        have hm6 : wz.cell? ⟨g, 6, none⟩ = some (.int .u32 (c.out.u : Int)) := HC.out.tab.cell 6
        have hm9 : wz.cell? ⟨g, 9, none⟩ = some (.slice A n cap) := HC.out.tab.cell 9
        have hby : Bs wz (.slice A n cap) c.out.bytes := by have := HC.out.bytes.rowN; unfold Bs; rw [Hn.out]; rw [show ({ c with out := { c.out with n := n2 } } : TConn).out.bytes.length = n from Hn.out] at this; exact this
        have HBS := hid (hby.take_ (k := 1) (by rw [Hn.out]; omega))
        have Hql := hid (show (c.out.bytes.take 1).length = 1 by rw [List.length_take, Hn.out]; omega)
        have HI := hid (show ConnInv wz base g { c with out := { c.out with n := n2 } } m F from ⟨_, _, _, _, HC.out⟩)
        have t4 : (1 : Int) ≤ (cap : Int) := by omega
        have t5 : 1 ≤ cap := by omega
        clear hby
        go_region_held3 (fun wy => wy.cell? ⟨g, 6, none⟩ = some (.int .u32 (c.out.u : Int)) ∧ wy.cell? ⟨g, 9, none⟩ = some (.slice A n cap)) (first | exact ⟨hm6, hm9⟩ | exact ⟨cell_below (below_drew _) hm6, cell_below (below_drew _) hm9⟩ | exact ⟨cell_below Hb2.out hm6, cell_below Hb2.out hm9⟩ | exact ⟨cell_below (below_alloc' Hb2.out _) hm6, cell_below (below_alloc' Hb2.out _) hm9⟩) (first
          | (go_at_call 41; (with_reducible refine (seg_at base g { c with out := { c.out with n := n2 } } m F c.out.u 16 (.slice A 1 cap) (c.out.bytes.take 1) 1 wn _ (by first | exact HI.out | exact HI.out.keep (below_drew _)) Hrl.out Hwn.out (by first | exact HBS.out | exact HBS.out.drew) Hql.out (by omega)).mono ?_); rintro e w2 ⟨A2, cap2, rfl, hown, hb1⟩; have Hb2 := hid (show Below wz.heap.size wz w2 from by first | exact hb1 | exact (below_drew wz).trans hb1); have Ho2 := hid (show OwnBs w2 wz.heap.size 5 (.slice A2 1 cap2) (c.out.bytes.take 1) from hown); clear hown hb1)
          | fail)
        all_goals
          go_wp2_with fail
          go_ret
          rw [Hr.out, ← Hwn.out]
          have h1 := OwnSgs.one (s := tSegment c c.out.u 16 (c.out.bytes.take 1)) (Ho2.out.mono Hsz.out) (Nat.le_trans Hsz.out Hb2.out.size)
          exact ⟨_, rfl, ⟨_, h1, rfl⟩, HI.out.keep (below_alloc' Hb2.out _), Hzf.out.trans (Below.frameF (below_alloc' Hb2.out _) F) (fun _ _ h => h)⟩
      · obtain rfl : n = 0 := by omega
        have Hr := hid (show tResent c = ([], c) by
          unfold tResent
          rw [if_neg (by rw [Hk.out]; decide), if_neg HNF.out, if_neg (by rw [Hleft.out]; decide)])
        go_wp2_with (go_at_call 44; refine (HL.out _).mono ?_; rintro e w' ⟨rfl, q0, rfl⟩)
        go_ret
        rw [Hr.out]
        exact ⟨_, rfl, OwnSgL.nil _ _, H.out.keep (below_drewN (Below.refl _ _) _), Below.frameF (below_drewN (Below.refl _ _) _) F⟩
end Go.Proofs.Ytahlcjkcdgahkaa
