/- The document's connection: does its clock run; Tick, Send, Recv. -/
import Derived.Test.YtahlcjkcdgahkaaRcA
import Derived.Test.YtahlcjkcdgahkaaStoreG
import Derived.Test.YtahlcjkcdgahkaaRegion
import Derived.Test.YtahlcjkcdgahkaaTcpC
import Derived.Deep.RegionHeld3
namespace Go.Proofs.Ytahlcjkcdgahkaa
section
open Go Go.RowKit
attribute [local go_sem ↓] Go.wp_at_zero Go.wp_at_succ
set_option maxRecDepth 100000

theorem rseginfo : (Try.prog.info? 51).map (·.size) = some 8 := by kernel_rfl
theorem lays_rseg (s0 s1 s2 s3 s4 s5 s6 : Int) (A : Option Addr) (n c : Nat) : Lays Try.prog 51 #[.int .i64 s0, .int .i64 s1, .int .u32 s2, .int .u32 s3, .int .i64 s4, .int .i64 s5, .int .i64 s6, .slice A n c] := ⟨rseginfo, by simp [Value.oneCell']⟩
theorem fold_rseg (x y : Value) : Instr.storeAt 51 x y = storeG 51 x y := rfl

/-- the document's connection in block g: its cells, and what its three slices hold -/
structure RcAt (w : World) (base g : Nat) (cs : List Value) (vi vo vs : Value) (i : List UInt8) (lt : List (Nat × UInt8)) (s : List UInt8) (F : Nat → Prop) : Prop where
  tab : Blk w g 58 cs
  inn : RowAtS w base 5 1 vi i.length (i.map u8v)
  out : RowAtS w base 122 2 vo lt.length (ltRow lt)
  snt : RowAtS w base 5 1 vs s.length (s.map u8v)
  ap : ∀ k, vi.ownBlock = some k → vs.ownBlock ≠ some k
  fg : F g
  fi : ∀ k, vi.ownBlock = some k → F k
  fo : ∀ k, vo.ownBlock = some k → F k
  fs : ∀ k, vs.ownBlock = some k → F k
  flt : ∀ k, F k → base ≤ k ∧ k < w.heap.size
section
variable {w w' : World} {base g : Nat} {cs : List Value} {vi vo vs : Value} {i s : List UInt8} {lt : List (Nat × UInt8)} {F : Nat → Prop}
theorem RcAt.same {G : Nat → Prop} (h : RcAt w base g cs vi vo vs i lt s F) (hf : Frame G w w') (hd : ∀ k, F k → ¬ G k) : RcAt w' base g cs vi vo vs i lt s F :=
  ⟨hf.blk h.tab (hd _ h.fg), h.inn.same fun k hk => hf.block k (h.inn.lt hk).2 (hd _ (h.fi k hk)), h.out.same fun k hk => hf.block k (h.out.lt hk).2 (hd _ (h.fo k hk)), h.snt.same fun k hk => hf.block k (h.snt.lt hk).2 (hd _ (h.fs k hk)), h.ap, h.fg, h.fi, h.fo, h.fs, fun k hk => ⟨(h.flt k hk).1, Nat.lt_of_lt_of_le (h.flt k hk).2 hf.size⟩⟩
theorem RcAt.keep (h : RcAt w base g cs vi vo vs i lt s F) (hb : Below w.heap.size w w') : RcAt w' base g cs vi vo vs i lt s F := h.same (G := fun _ => False) (Below.frameF hb _) (fun _ _ => id)
theorem RcAt.drewN (h : RcAt w base g cs vi vo vs i lt s F) (q : Nat) : RcAt (w.drewN q) base g cs vi vo vs i lt s F := h.keep (below_drewN (Below.refl _ _) q)
theorem RcAt.base_le (h : RcAt w base g cs vi vo vs i lt s F) : base ≤ w.heap.size := by have := h.flt _ h.fg; omega
/-- one of its own cells is written, no slice -/
theorem RcAt.set1 (h : RcAt w base g cs vi vo vs i lt s F) (k : Nat) (u : Value) : RcAt (w.setCell ⟨g, k, none⟩ u) base g (cs.set k u) vi vo vs i lt s F := by
  have hg := grown_set w g k u
  refine ⟨h.tab.set_ k u, h.inn.same fun q hq => hg.block q (h.inn.lt hq).2 (fun e => ?_), h.out.same fun q hq => hg.block q (h.out.lt hq).2 (fun e => ?_), h.snt.same fun q hq => hg.block q (h.snt.lt hq).2 (fun e => ?_), h.ap, h.fg, h.fi, h.fo, h.fs, fun q hq => ⟨(h.flt q hq).1, Nat.lt_of_lt_of_le (h.flt q hq).2 hg.size⟩⟩
  · injection e with e; subst e; exact h.inn.ne h.tab (by decide) hq
  · injection e with e; subst e; exact h.out.ne h.tab (by decide) hq
  · injection e with e; subst e; exact h.snt.ne h.tab (by decide) hq
theorem RcAt.fset (h : RcAt w base g cs vi vo vs i lt s F) (k : Nat) (u : Value) : Frame F w (w.setCell ⟨g, k, none⟩ u) := frame_grown (grown_set w g k u) (fun q hq => by injection hq with hq; subst hq; exact h.fg)
theorem RcAt.bd (h : RcAt w base g cs vi vo vs i lt s F) (k : Nat) (hk : F k) : base ≤ k ∧ k < w.heap.size := h.flt k hk
end
def rcList (fr dt st : Int) (r u n : Nat) (vi vo : Value) (e0 : Nat) (he : Bool) (vs : Value) (wn ms : Int) (ended fin : Bool) (clock tries : Int) (own owe anew gv : Bool) : List Value :=
  [.int .i64 fr, .int .i64 dt, .int .i64 st, .int .u32 (r : Int), .int .u32 (u : Int), .int .u32 (n : Int), vi, vo, .int .u32 (e0 : Int), .bool he, vs, .int .i64 wn, .int .i64 ms, .bool ended, .bool fin, .int .i64 clock, .int .i64 tries, .bool own, .bool owe, .bool anew, .bool gv]
/-- the cells of the document's connection that stands for c -/
def rcCells (c : TConn) (own owe gv : Bool) (vi vo vs : Value) : List Value :=
  rcList c.dst c.src c.state c.inn.r c.out.u c.out.n vi vo c.inn.fin c.inn.told vs c.out.w c.out.m c.out.ended c.out.fin c.out.clock c.out.tries own owe c.again gv

section
attribute [local go_sem ↓] fold_rseg
attribute [local go_sem] storeG_run lays_rseg
set_option maxHeartbeats 2000000 in
theorem rsegment_at (g : Nat) (fr dt : Int) (r n : Nat) (A : Option Addr) (cap : Nat) (seq : Nat) (flags : Int) (v : Value) (data : List UInt8) (w : World) (hn : n ≤ 16384) (c0 : w.cell? ⟨g, 0, none⟩ = some (.int .i64 fr)) (c1 : w.cell? ⟨g, 1, none⟩ = some (.int .i64 dt)) (c3 : w.cell? ⟨g, 3, none⟩ = some (.int .u32 (r : Int))) (c6 : w.cell? ⟨g, 6, none⟩ = some (.slice A n cap)) (hd : Bs w v data) (hl : data.length ≤ 100000) :
    Calls Try.prog 68 #[.pointer (some ⟨g, 0, none⟩), .int .u32 (seq : Int), .int .i64 flags, v] w (SegPost ⟨dt, fr, seq, r, flags, 16384 - (n : Int), 0, data⟩ w) := by
  obtain ⟨q, hq⟩ : ∃ n, data.length = n := ⟨_, rfl⟩
  obtain ⟨Av, cv, rfl⟩ := slice_len hd hq
  have Hq := hid hq
  have Hl := hid (show q ≤ 100000 by omega)
  have HW := hid (below_alloc w (.cells #[.int .i64 0, .int .i64 0, .int .u32 0, .int .u32 0, .int .i64 0, .int .i64 0, .int .i64 0, .slice none 0 0] 51))
  have Bk := hid (Blk.new w 51 #[.int .i64 0, .int .i64 0, .int .u32 0, .int .u32 0, .int .i64 0, .int .i64 0, .int .i64 0, .slice none 0 0])
  have HD := hid hd
  have HK := hid (show ∀ wy, Below w.heap.size w wy → wy.cell? ⟨g, 0, none⟩ = some (.int .i64 fr) ∧ wy.cell? ⟨g, 1, none⟩ = some (.int .i64 dt) ∧ wy.cell? ⟨g, 3, none⟩ = some (.int .u32 (r : Int)) ∧ wy.cell? ⟨g, 6, none⟩ = some (.slice A n cap) from fun wy hb => ⟨cell_below hb c0, cell_below hb c1, cell_below hb c3, cell_below hb c6⟩)
  have hmn : (16384 - (n : Int)) < 65535 := by omega
  clear hd hq hl c0 c1 c3 c6
  go_enter Try.func68, Try.ntmps68
  go_upto_region 1 with fail
  generalize w.alloc (.cells #[.int .i64 0, .int .i64 0, .int .u32 0, .int .u32 0, .int .i64 0, .int .i64 0, .int .i64 0, .slice none 0 0] 51) = wz at *
  have Hn := hid hn
  go_region_held3 (fun wy => Below w.heap.size w wy ∧ wy.cell? ⟨g, 0, none⟩ = some (.int .i64 fr) ∧ wy.cell? ⟨g, 1, none⟩ = some (.int .i64 dt) ∧ wy.cell? ⟨g, 3, none⟩ = some (.int .u32 (r : Int)) ∧ wy.cell? ⟨g, 6, none⟩ = some (.slice A n cap)) ((first | exact ⟨(by first | exact below_own Hb2.out (grown_setRow _ _ _) (Nat.le_refl _) Hb2.out.size | exact Hb2.out | exact HW.out.trans ((below_drew wz).mono HW.out.size) | exact HW.out.trans ((below_alloc' (below_drew wz) _).mono HW.out.size) | exact HW.out.trans (((below_alloc wz _).drew).mono HW.out.size)), HK.out _ (by first | exact below_own Hb2.out (grown_setRow _ _ _) (Nat.le_refl _) Hb2.out.size | exact Hb2.out | exact HW.out.trans ((below_drew wz).mono HW.out.size) | exact HW.out.trans ((below_alloc' (below_drew wz) _).mono HW.out.size) | exact HW.out.trans (((below_alloc wz _).drew).mono HW.out.size))⟩)) (first
    | (go_at_call 67; refine (rwindow_at g A n cap _ Hn.out (HK.out _ (by first | exact below_own Hb2.out (grown_setRow _ _ _) (Nat.le_refl _) Hb2.out.size | exact Hb2.out | exact HW.out.trans ((below_drew wz).mono HW.out.size) | exact HW.out.trans ((below_alloc' (below_drew wz) _).mono HW.out.size) | exact HW.out.trans (((below_alloc wz _).drew).mono HW.out.size))).2.2.2).mono ?_; rintro e w' ⟨rfl, rfl⟩)
    | (refine step_app8 _ (by rfl) _ _ 28 (by rfl) wz.heap.size 5 u8ok (.slice (some ⟨wz.heap.size, 0, none⟩) 0 0) [] (by rfl) (by first | exact ownBs_litNil rfl (Nat.le_refl _) | exact (ownBs_litNil rfl (Nat.le_refl _)).drew) (.slice Av q cv) data (by rfl) (HD.out.below (by first | exact below_own Hb2.out (grown_setRow _ _ _) (Nat.le_refl _) Hb2.out.size | exact Hb2.out | exact HW.out.trans ((below_drew wz).mono HW.out.size) | exact HW.out.trans ((below_alloc' (below_drew wz) _).mono HW.out.size) | exact HW.out.trans (((below_alloc wz _).drew).mono HW.out.size))) (by have := Hl.out; have := Hq.out; simp; omega) (by first | exact Nat.le_refl _ | simp) ?_; intro v2 w2 hown2 hb2 hg2; rw [List.nil_append] at hown2; obtain ⟨A2, cap2, rfl⟩ := slice_len hown2.bs Hq.out; have hbz : Below wz.heap.size wz w2 := Below.trans (show Below wz.heap.size wz _ from (by first | exact below_drew _ | exact below_alloc' (below_drew _) _ | exact (below_alloc _ _).drew | exact Below.refl _ _)) hb2; have Hb2 := hid (HW.out.trans (hbz.mono HW.out.size)); have O2 := hid hown2; have Bk2 := hid (Bk.out.keep hbz); have hroom : RoomFor w2 w.heap.size 8 := Bk2.out.room; clear hbz; clear hown2 hb2 hg2)
    | fail)
  all_goals
    go_wp2_with fail
    refine ret_cell1' rfl _ _ _ _ rfl (Bk2.out.setRow #[.int .i64 dt, .int .i64 fr, .int .u32 (seq : Int), .int .u32 (r : Int), .int .i64 flags, .int .i64 (16384 - (n : Int)), .int .i64 0, .slice A2 q cap2]) Try.underlying51 rseginfo rfl ?_
    unfold SegPost
    exact ⟨_, rfl, (ownBs_store O2.out Bk2.out (by decide) (grown_setRow w2 w.heap.size #[.int .i64 dt, .int .i64 fr, .int .u32 (seq : Int), .int .u32 (r : Int), .int .i64 flags, .int .i64 (16384 - (n : Int)), .int .i64 0, .slice A2 q cap2])).mono HW.out.size, below_own Hb2.out (grown_setRow _ _ _) (Nat.le_refl _) Hb2.out.size⟩
end
end
section
open Go Go.RowKit
attribute [local go_sem ↓] Go.wp_at_zero Go.wp_at_succ
set_option maxRecDepth 100000

def rRuns (st : Int) (u n : Nat) (fin : Bool) (len : Nat) (wn : Int) : Bool := decide (st ≠ 5) && (decide (u ≠ n) || (decide ((len : Int) > rWay st u n fin) && decide (wn = 0)))
set_option maxHeartbeats 4000000 in
theorem rruns_at (g : Nat) (st : Int) (u n : Nat) (fin : Bool) (A : Option Addr) (len cap : Nat) (wn : Int) (w : World) (hu : u < 4294967296) (hn : n < 4294967296) (c2 : w.cell? ⟨g, 2, none⟩ = some (.int .i64 st)) (c4 : w.cell? ⟨g, 4, none⟩ = some (.int .u32 (u : Int))) (c5 : w.cell? ⟨g, 5, none⟩ = some (.int .u32 (n : Int))) (c10 : w.cell? ⟨g, 10, none⟩ = some (.slice A len cap)) (c11 : w.cell? ⟨g, 11, none⟩ = some (.int .i64 wn)) (c14 : w.cell? ⟨g, 14, none⟩ = some (.bool fin)) :
    Calls Try.prog 66 #[.pointer (some ⟨g, 0, none⟩)] w fun e w' => e = .returned (.bool (rRuns st u n fin len wn)) ∧ ∃ q, w' = w.drewN q := by
  obtain ⟨wy, hwy⟩ : ∃ d, rWay st u n fin = d := ⟨_, rfl⟩
  have HWy := hid (show ∀ k, Calls Try.prog 70 #[.pointer (some ⟨g, 0, none⟩)] (w.drewN k) fun e w' => e = .returned (.int .i64 wy) ∧ ∃ q, w' = (w.drewN k).drewN q from fun k => by rw [← hwy]; exact rway_at g st u n fin (w.drewN k) hu hn c2 c4 c5 c14)
  unfold rRuns
  rw [hwy]
  clear hwy hu hn
  have hcs : (st = 5 ∨ st ≠ 5 ∧ (st != 5) = true ∧ ((u ≠ n ∧ ((u : Int) != (n : Int)) = true) ∨ (u = n ∧ (((len : Int) > wy ∧ (wn = 0 ∨ wn ≠ 0 ∧ (wn == 0) = false)) ∨ ¬ (len : Int) > wy)))) := by
    by_cases z1 : st = 5
    · exact .inl z1
    · refine .inr ⟨z1, by simpa using z1, ?_⟩
      by_cases z2 : u = n
      · refine .inr ⟨z2, ?_⟩
        by_cases z3 : (len : Int) > wy
        · refine .inl ⟨z3, ?_⟩
          by_cases z4 : wn = 0
          · exact .inl z4
          · exact .inr ⟨z4, by simpa using z4⟩
        · exact .inr z3
      · refine .inl ⟨z2, ?_⟩
        simp only [bne_iff_ne, ne_eq]
        omega
  rcases hcs with rfl | ⟨h1, h1b, ⟨h2, h2b⟩ | ⟨rfl, ⟨h3, rfl | ⟨h4, h4b⟩⟩ | h3⟩⟩
  · have Hr := hid (show (decide ((5 : Int) ≠ 5) && (decide (u ≠ n) || (decide ((len : Int) > wy) && decide (wn = 0)))) = false by simp)
    rw [Hr.out]
    go_enter Try.func66, Try.ntmps66
    go_wp2_with fail
    go_quiet (fail)
    go_wp2_with fail
    go_ret
    exact ⟨rfl, _, rfl⟩
  · have Hr := hid (show (decide (st ≠ 5) && (decide (u ≠ n) || (decide ((len : Int) > wy) && decide (wn = 0)))) = true by simp [h1, h2])
    rw [Hr.out]
    go_enter Try.func66, Try.ntmps66
    go_wp2_with fail
    go_quiet (fail)
    go_wp2_with fail
    go_ret
    exact ⟨ret_bool (by first | rfl | simp), _, rfl⟩
  · have Hr := hid (show (decide (st ≠ 5) && (decide (u ≠ u) || (decide ((len : Int) > wy) && decide ((0 : Int) = 0)))) = true by simp [h1]; omega)
    rw [Hr.out]
    go_enter Try.func66, Try.ntmps66
    go_wp2_with fail
    go_quiet ((go_at_call 70; exact Calls.quiet_of (HWy.out _)))
    go_wp2_with fail
    go_ret
    exact ⟨ret_bool (by first | rfl | simp), _, rfl⟩
  · have Hr := hid (show (decide (st ≠ 5) && (decide (u ≠ u) || (decide ((len : Int) > wy) && decide (wn = 0)))) = false by simp [h4])
    rw [Hr.out]
    go_enter Try.func66, Try.ntmps66
    go_wp2_with fail
    go_quiet ((go_at_call 70; exact Calls.quiet_of (HWy.out _)))
    go_wp2_with fail
    go_ret
    exact ⟨ret_bool (by first | rfl | simp), _, rfl⟩
  · have Hr := hid (show (decide (st ≠ 5) && (decide (u ≠ u) || (decide ((len : Int) > wy) && decide (wn = 0)))) = false by simp; omega)
    rw [Hr.out]
    have h3b : decide (wy < (len : Int)) = false := decide_eq_false (by omega)
    go_enter Try.func66, Try.ntmps66
    go_wp2_with fail
    go_quiet ((go_at_call 70; exact Calls.quiet_of (HWy.out _)))
    go_wp2_with fail
    go_ret
    exact ⟨ret_bool (by first | rfl | simp), _, rfl⟩

/-- what the document's connection holds beside the cells that it has in common with the program's -/
structure RcRel (c : TConn) (own owe gv : Bool) (lt : List (Nat × UInt8)) (q : Nat) : Prop where
  early : c.inn.done = false → LtRel c.inn.early lt
  own : c.state = 1 → own = c.begin_
  owe : c.state ≠ 5 → owe = c.acks
  gv : gv = (c.gave && !c.off)
  len : lt.length ≤ q
  num : ∀ x ∈ lt, x.1 < 4294967296
/-- the document's connection in block g stands for c -/
def RConn (w : World) (base g : Nat) (c : TConn) (q : Nat) (F : Nat → Prop) : Prop :=
  ∃ own owe gv lt vi vo vs, RcAt w base g (rcCells c own owe gv vi vo vs) vi vo vs c.inn.ready lt c.out.bytes F ∧ RcRel c own owe gv lt q
theorem RConn.keep {w w' : World} {base g : Nat} {c : TConn} {q : Nat} {F : Nat → Prop} (h : RConn w base g c q F) (hb : Below w.heap.size w w') : RConn w' base g c q F := by
  obtain ⟨a1, a2, a3, a4, a5, a6, a7, h1, h2⟩ := h
  exact ⟨a1, a2, a3, a4, a5, a6, a7, h1.keep hb, h2⟩
theorem RConn.frame {w w' : World} {base g : Nat} {c : TConn} {q : Nat} {F G : Nat → Prop} (h : RConn w base g c q F) (hf : Frame G w w') (hd : ∀ k, F k → ¬ G k) : RConn w' base g c q F := by
  obtain ⟨a1, a2, a3, a4, a5, a6, a7, h1, h2⟩ := h
  exact ⟨a1, a2, a3, a4, a5, a6, a7, h1.same hf hd, h2⟩
theorem RConn.bd {w : World} {base g : Nat} {c : TConn} {q : Nat} {F : Nat → Prop} (h : RConn w base g c q F) (k : Nat) (hk : F k) : base ≤ k ∧ k < w.heap.size := by
  obtain ⟨a1, a2, a3, a4, a5, a6, a7, h1, h2⟩ := h
  exact h1.bd k hk
theorem RConn.more {w : World} {base g : Nat} {c : TConn} {q q' : Nat} {F : Nat → Prop} (h : RConn w base g c q F) (hq : q ≤ q') : RConn w base g c q' F := by
  obtain ⟨a1, a2, a3, a4, a5, a6, a7, h1, h2⟩ := h
  exact ⟨a1, a2, a3, a4, a5, a6, a7, h1, h2.early, h2.own, h2.owe, h2.gv, Nat.le_trans h2.len hq, h2.num⟩

/-! ### Tick -/

def RPost (base g : Nat) (c' : TConn) (q : Nat) (F : Nat → Prop) (w : World) (e : Ending) (w' : World) : Prop := (∃ u, e = .returned u) ∧ RConn w' base g c' q F ∧ Frame F w w'
/-- does the clock run, told by the program's words -/
theorem runs_law {c : TConn} (ho : OutOk c) (hb : BaseOk c) : rRuns c.state c.out.u c.out.n c.out.fin c.out.bytes.length c.out.w = false ↔ c.state = 5 ∨ (c.out.u = c.out.n ∧ (c.out.left = 0 ∨ c.out.w ≠ 0)) := by
  unfold rRuns
  by_cases h5 : c.state = 5
  · simp [h5]
  by_cases hun : c.out.u = c.out.n
  · have h1 : c.state ≠ 1 := fun e => by
      have := (hb.s1 e).2.1
      have := ho.u
      omega
    have hbase := hb.base (by have := ho.st; omega)
    have hl := ho.sent1
    have hw : rWay c.state c.out.u c.out.n c.out.fin = c.out.sent := by
      unfold rWay TOut.sent
      rw [if_neg h1, hbase]
    rw [hw]
    simp only [h5, hun, ne_eq, not_false_eq_true, decide_true, Bool.true_and, not_true_eq_false, decide_false, Bool.false_or, Bool.and_eq_false_iff, decide_eq_false_iff_not, true_and, false_or]
    unfold TOut.left
    omega
  · simp [h5, hun]
end
end Go.Proofs.Ytahlcjkcdgahkaa
