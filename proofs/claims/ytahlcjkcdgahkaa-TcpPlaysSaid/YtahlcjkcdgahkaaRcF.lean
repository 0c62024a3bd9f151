/- The document's note: its bytes. -/
import Derived.Test.YtahlcjkcdgahkaaRcE
import Derived.Test.YtahlcjkcdgahkaaRowAt
namespace Go.Proofs.Ytahlcjkcdgahkaa
open Go Go.RowKit
attribute [local go_sem ↓] Go.wp_at_zero Go.wp_at_succ
set_option maxRecDepth 100000
set_option linter.unusedSimpArgs false

theorem RowAtS.blk {w : World} {base size n g : Nat} {e : TypeId} {v : Value} {xs : List Value} (h : RowAtS w base e size v n xs) (hg : v.ownBlock = some g) : ∃ cur, Blk w g e cur := by
  rcases h.2 with ⟨rfl, _⟩ | ⟨g2, off, cap, cur, rfl, _, hh, _⟩
  · simp [Value.ownBlock] at hg
  · simp only [Value.ownBlock, Option.some.injEq] at hg
    subst hg
    exact ⟨cur, hh⟩
section
variable {w w6 : World} {base g : Nat} {cs : List Value} {vi vo vs v6 : Value} {i s i' : List UInt8} {lt lt' : List (Nat × UInt8)} {F : Nat → Prop}
theorem RcAt.swapOut (h : RcAt w base g cs vi vo vs i lt s F) (hr : RowAtS w6 base 122 2 v6 lt'.length (ltRow lt')) (hg : w.grownBy w6 vo.ownBlock) :
    RcAt (w6.setCell ⟨g, 7, none⟩ v6) base g (cs.set 7 v6) vi v6 vs i lt' s (fun k => F k ∨ v6.ownBlock = some k) ∧ Frame F w (w6.setCell ⟨g, 7, none⟩ v6) := by
  have htab := h.tab.grown hg (fun e => h.out.ne h.tab (by decide) e.symm)
  have hin := h.inn.kept hg (fun k hk e => by
    obtain ⟨c1, b1⟩ := RowAtS.blk h.inn hk
    exact h.out.ne b1 (by decide) e.symm)
  have hsn := h.snt.kept hg (fun k hk e => by
    obtain ⟨c1, b1⟩ := RowAtS.blk h.snt hk
    exact h.out.ne b1 (by decide) e.symm)
  have hgs := grown_set w6 g 7 v6
  refine ⟨⟨htab.set_ 7 v6, hin.same fun q hq => hgs.block q (hin.lt hq).2 (fun e => ?_), hr.same fun q hq => hgs.block q (hr.lt hq).2 (fun e => ?_), hsn.same fun q hq => hgs.block q (hsn.lt hq).2 (fun e => ?_), h.ap, .inl h.fg, fun k hk => .inl (h.fi k hk), fun k hk => .inr hk, fun k hk => .inl (h.fs k hk), fun k hk => ?_⟩, (frame_grown hg (fun k hk => h.fo k hk)).trans (frame_grown hgs (F := F) (fun q hq => by injection hq with hq; subst hq; exact h.fg)) (fun _ _ h => h)⟩
  · injection e with e; subst e; exact hin.ne htab (by decide) hq
  · injection e with e; subst e; exact hr.ne htab (by decide) hq
  · injection e with e; subst e; exact hsn.ne htab (by decide) hq
  · have h1 := hg.size
    have h2 := hgs.size
    rcases hk with hk | hk
    · have := h.flt k hk; omega
    · have := hr.lt hk; omega
theorem RcAt.swapIn (h : RcAt w base g cs vi vo vs i lt s F) (hr : RowAtS w6 base 5 1 v6 i'.length (i'.map u8v)) (hg : w.grownBy w6 vi.ownBlock) (hap : ∀ k, v6.ownBlock = some k → vs.ownBlock ≠ some k) :
    RcAt (w6.setCell ⟨g, 6, none⟩ v6) base g (cs.set 6 v6) v6 vo vs i' lt s (fun k => F k ∨ v6.ownBlock = some k) ∧ Frame F w (w6.setCell ⟨g, 6, none⟩ v6) := by
  have htab := h.tab.grown hg (fun e => h.inn.ne h.tab (by decide) e.symm)
  have hou := h.out.kept hg (fun k hk e => by
    obtain ⟨c1, b1⟩ := RowAtS.blk h.out hk
    exact h.inn.ne b1 (by decide) e.symm)
  have hsn := h.snt.kept hg (fun k hk e => h.ap k e.symm hk)
  have hgs := grown_set w6 g 6 v6
  refine ⟨⟨htab.set_ 6 v6, hr.same fun q hq => hgs.block q (hr.lt hq).2 (fun e => ?_), hou.same fun q hq => hgs.block q (hou.lt hq).2 (fun e => ?_), hsn.same fun q hq => hgs.block q (hsn.lt hq).2 (fun e => ?_), hap, .inl h.fg, fun k hk => .inr hk, fun k hk => .inl (h.fo k hk), fun k hk => .inl (h.fs k hk), fun k hk => ?_⟩, (frame_grown hg (fun k hk => h.fi k hk)).trans (frame_grown hgs (F := F) (fun q hq => by injection hq with hq; subst hq; exact h.fg)) (fun _ _ h => h)⟩
  · injection e with e; subst e; exact hr.ne htab (by decide) hq
  · injection e with e; subst e; exact hou.ne htab (by decide) hq
  · injection e with e; subst e; exact hsn.ne htab (by decide) hq
  · have h1 := hg.size
    have h2 := hgs.size
    rcases hk with hk | hk
    · have := h.flt k hk; omega
    · have := hr.lt hk; omega
end
theorem RcAt.nilOut {w : World} {base g : Nat} {cs : List Value} {vi vo vs : Value} {i s : List UInt8} {lt : List (Nat × UInt8)} {F : Nat → Prop} (h : RcAt w base g cs vi vo vs i lt s F) : RcAt (w.setCell ⟨g, 7, none⟩ (.slice none 0 0)) base g (cs.set 7 (.slice none 0 0)) vi (.slice none 0 0) vs i [] s F := by
  have hq := h.set1 7 (.slice none 0 0)
  exact ⟨hq.tab, hq.inn, RowAtS.nil _ _ _ _, hq.snt, hq.ap, hq.fg, hq.fi, fun k hk => by simp [Value.ownBlock] at hk, hq.fs, hq.flt⟩
theorem laterinfo : (Try.prog.info? 122).map (fun i => (i.zero, i.size, i.bytes)) = some (some (.agg #[.int .u32 0, .int .u8 0]), 2, 8) := by kernel_rfl
theorem laterok : ElemOk Try.prog 56 122 (.agg #[.int .u32 0, .int .u8 0]) 2 8 := by
  obtain ⟨i, hi, hz, hs, hb⟩ := info_parts laterinfo
  exact ⟨Try.underlying56, ⟨i, hi, hz, hs, hb⟩, by kernel_rfl, by decide, by decide⟩
theorem bs_frame {w w' : World} {F : Nat → Prop} {v : Value} {bs : List UInt8} (h : Bs w v bs) (hf : Frame F w w') (hv : bs.length = 0 ∨ ∀ k, v.ownBlock = some k → ¬ F k) : Bs w' v bs := by
  obtain ⟨h1, A, cap, rfl, h2, h3, h4⟩ := h
  refine ⟨h1, A, cap, rfl, h2, h3, ?_⟩
  rcases hv with hv | hv
  · exact .inl hv
  rcases h4 with h4 | ⟨b, off, rfl, hc⟩
  · exact .inl h4
  · refine .inr ⟨b, off, rfl, fun i x hx => ?_⟩
    have h5 := hc i x hx
    have hlt := World.block_lt_of_cell? w _ h5
    have h6 := hf.block b hlt (hv b rfl)
    rw [← h5]
    unfold World.cell?
    simp only [h6]
theorem cell_frame {F : Nat → Prop} {w w' : World} (hf : Frame F w w') {b o : Nat} {x : Value} (h : w.cell? ⟨b, o, none⟩ = some x) (hn : ¬ F b) : w'.cell? ⟨b, o, none⟩ = some x := by
  have hlt := World.block_lt_of_cell? w _ h
  have h6 := hf.block b hlt hn
  rw [← h]
  unfold World.cell?
  simp only [h6]
def ltDrop (lt : List (Nat × UInt8)) (r : Nat) : List (Nat × UInt8) := lt.filter fun x => !decide (x.1 = r)
theorem ltDrop_len (lt : List (Nat × UInt8)) (r : Nat) : (ltDrop lt r).length ≤ lt.length := List.length_filter_le _ _
theorem ltDrop_snoc (lt : List (Nat × UInt8)) (r k : Nat) (h : k < lt.length) : ltDrop (lt.take (k + 1)) r = ltDrop (lt.take k) r ++ if lt[k].1 = r then [] else [lt[k]] := by
  unfold ltDrop
  rw [take_snoc lt k h, List.filter_append]
  congr 1
  by_cases e : lt[k].1 = r <;> simp [e]
theorem grown_refl (w : World) (g : Option Nat) : w.grownBy w g := ⟨rfl, rfl, rfl, Nat.le_refl _, fun _ _ _ => rfl⟩
/-- the flow's step where o is what came early of the number r -/
def flowStep (o : Option UInt8) (i : TIn) (r : Nat) : TIn :=
  match o with
  | none => i
  | some b => tFlowN i.q { i with early := fun x => if x = r then none else i.early x, ready := i.ready ++ [b], r := (r + 1) % 4294967296 }
theorem flow_unfold (i : TIn) (h : i.done = false) : tFlowN (i.q + 1) i = if i.told = true ∧ i.fin = i.r then { i with done := true, r := (i.r + 1) % 4294967296, early := fun _ => none } else flowStep (i.early i.r) i i.r := by
  conv => lhs; unfold tFlowN
  rw [if_neg (by simp [h])]
  rfl
/-- while the bytes of a segment are noted -/
structure RNoteAt (base g : Nat) (c : TConn) (own owe gv : Bool) (vi vs : Value) (F : Nat → Prop) (w0 : World) (box : List Value) (v : Value) (data : List UInt8) (lt : List (Nat × UInt8)) (vo : Value) (F1 : Nat → Prop) (wr : World) : Prop where
  at_ : RcAt wr base g (rcCells c own owe gv vi vo vs) vi vo vs c.inn.ready lt c.out.bytes F1
  box : Blk wr w0.heap.size 51 box
  bs : Bs wr v data
  fr : Frame F w0 wr
  fn : ∀ k, F1 k → F k ∨ w0.heap.size + 1 ≤ k
  num : ∀ x ∈ lt, x.1 < 4294967296
theorem RNoteAt.keep {base g : Nat} {c : TConn} {own owe gv : Bool} {vi vs : Value} {F : Nat → Prop} {w0 : World} {box : List Value} {v : Value} {data : List UInt8} {lt : List (Nat × UInt8)} {vo : Value} {F1 : Nat → Prop} {wr wx : World} (h : RNoteAt base g c own owe gv vi vs F w0 box v data lt vo F1 wr) (hb : Below wr.heap.size wr wx) : RNoteAt base g c own owe gv vi vs F w0 box v data lt vo F1 wx :=
  ⟨h.at_.keep hb, h.box.keep hb, h.bs.below hb, h.fr.trans (Below.frameF hb F) (fun _ _ h => h), h.fn, h.num⟩

def RNotePost (base g : Nat) (c : TConn) (qm : Nat) (F : Nat → Prop) (s : TSeg) (w : World) (e : Ending) (w' : World) : Prop :=
  (∃ u, e = .returned u) ∧ ∃ F', RConn w' base g { c with inn := tFlow (tNote c.inn s), state := if (tFlow (tNote c.inn s)).done = true then 3 else 2 } (qm + s.data.length) F' ∧ Frame F w w' ∧ ∀ k, F' k → F k ∨ w.heap.size ≤ k
theorem end_ret {P : Program} {fn : Func} {R : Ending → World → Prop} {a : Act} {w : World} (h : fn.results = #[]) (hd : a.defers = []) (hR : R (.returned (.tuple #[])) w) : bodyPost P fn R .ret a w := by
  refine bodyPost_ret (v := .tuple #[]) ?_ hd hR
  simp [results, h]
set_option maxHeartbeats 4000000 in
theorem rnote_conn (base g : Nat) (c : TConn) (qm : Nat) (F : Nat → Prop) (s : TSeg) (A : Option Addr) (n cap : Nat) (w : World) (h : RConn w base g c qm F) (hi : InOk c.inn) (hs2 : c.state = 2) (hdone : c.inn.done = false) (hs : s.seq < 4294967296) (hd : Bs w (.slice A n cap) s.data) (hl : n ≤ 100000) (hm : qm ≤ 1000000) (hf : n = 0 ∨ ∀ k, (Value.slice A n cap).ownBlock = some k → ¬ F k) :
    Calls Try.prog 65 #[.pointer (some ⟨g, 0, none⟩), s.val (.slice A n cap)] w (RNotePost base g c qm F s w) := by
  obtain ⟨s0, d0, sq, ak, fl, wi, ms, data⟩ := s
  dsimp only [TSeg.val, TSeg.cells]
  simp only at hs hd
  have hdl : data.length = n := hd.open.1
  have hcp : n ≤ cap ∧ cap ≤ 9223372036854775807 := by
    have := hd.open
    simp only [maxLen] at this
    omega
  obtain ⟨own, owe, gv, lt, vi, vo, vs, h1, h2⟩ := h
  have H2 := hid h2
  have Hi := hid hi
  obtain ⟨rl, hrl⟩ : ∃ n, c.inn.ready.length = n := ⟨_, rfl⟩
  obtain ⟨Ar, capr, rfl⟩ : ∃ A c2, vi = .slice A rl c2 := by rw [← hrl]; obtain ⟨_, A, c2, rfl, _⟩ := h1.inn.rowN; exact ⟨A, c2, rfl⟩
  have hrl2 : rl ≤ 16384 := by rw [← hrl]; exact hi.len
  obtain ⟨q, hq⟩ : ∃ q, c.inn.q = q := ⟨_, rfl⟩
  have hqs : q = 16384 - rl := by rw [← hq]; unfold TIn.q; rw [hrl]
  obtain ⟨r, hr⟩ : ∃ r, c.inn.r = r := ⟨_, rfl⟩
  have hr2 : r < 4294967296 := by rw [← hr]; exact hi.r
  have hsz := h1.flt
  have N0 := hid (show RNoteAt base g c own owe gv (.slice Ar rl capr) vs F w [.int .i64 s0, .int .i64 d0, .int .u32 (sq : Int), .int .u32 (ak : Int), .int .i64 fl, .int .i64 wi, .int .i64 ms, .slice A n cap] (.slice A n cap) data lt vo F (w.alloc (.cells #[.int .i64 s0, .int .i64 d0, .int .u32 (sq : Int), .int .u32 (ak : Int), .int .i64 fl, .int .i64 wi, .int .i64 ms, .slice A n cap] 51)) from
    ⟨h1.keep (below_alloc w _), Blk.new w 51 #[.int .i64 s0, .int .i64 d0, .int .u32 (sq : Int), .int .u32 (ak : Int), .int .i64 fl, .int .i64 wi, .int .i64 ms, .slice A n cap], hd.alloc _, Below.frameF (below_alloc w _) F, fun k hk => .inl hk, h2.num⟩)
  have HDB := hid (show n = 0 ∨ ∀ k, (Value.slice A n cap).ownBlock = some k → ¬ F k ∧ k < w.heap.size from by
    rcases hd.open.2.2.2 with h0 | ⟨b, off, rfl, hc⟩
    · exact .inl h0
    · by_cases h0 : n = 0
      · exact .inl h0
      · refine .inr fun k hk => ?_
        injection hk with hk
        subst hk
        exact ⟨(hf.resolve_left h0) _ rfl, World.block_lt_of_cell? w _ (hc 0 (by omega))⟩)
  have HF := hid (show ∀ k, F k → k < w.heap.size from fun k hk => (hsz k hk).2)
  have c2 : (w.alloc (.cells #[.int .i64 s0, .int .i64 d0, .int .u32 (sq : Int), .int .u32 (ak : Int), .int .i64 fl, .int .i64 wi, .int .i64 ms, .slice A n cap] 51)).cell? ⟨g, 2, none⟩ = some (.int .i64 2) := by rw [← hs2]; exact N0.out.at_.tab.cell 2
  have c6 : (w.alloc (.cells #[.int .i64 s0, .int .i64 d0, .int .u32 (sq : Int), .int .u32 (ak : Int), .int .i64 fl, .int .i64 wi, .int .i64 ms, .slice A n cap] 51)).cell? ⟨g, 6, none⟩ = some (.slice Ar rl capr) := N0.out.at_.tab.cell 6
  have HW := hid (rwindow_at g Ar rl capr _ hrl2 c6)
  have Hrl := hid hrl
  have Hq := hid hq
  have Hr := hid hr
  have Hdl := hid hdl
  have Hf := hid hf
  have Hs2 := hid hs2
  have Hdn := hid hdone
  clear h1 h2 hi hrl hq hr hd hdl hf hs2 hdone hsz
  go_enter Try.func65, Try.ntmps65
  go_upto_region 3 with (first | (go_at_call 67; refine HW.out.mono ?_; rintro e w' ⟨rfl, rfl⟩) | fail)
  clear HW c2 c6
  go_upto_region 4 with fail
  go_loopg [5, 6, 7, 8] n (fun gk s5 s6 s7 s8 wr => ∃ (j : Nat) (vo1 : Value) (F1 : Nat → Prop), j ≤ n ∧ n - j ≤ gk ∧ s5 = .int .i64 (j : Int) ∧ RNoteAt base g c own owe gv (.slice Ar rl capr) vs F w [.int .i64 s0, .int .i64 d0, .int .u32 (sq : Int), .int .u32 (ak : Int), .int .i64 fl, .int .i64 wi, .int .i64 ms, .slice A n cap] (.slice A n cap) data (rPut lt r q sq (data.take j) 0) vo1 F1 wr)
  case atStart => exact ⟨0, vo, F, Nat.zero_le _, by omega, rfl, N0.out⟩
  case round =>
    obtain ⟨j, vo1, F1, hj, hgk, rfl, hN⟩ := hrel
    clear N0
    have HN := hid hN
    have b7 : wr.cell? ⟨w.heap.size, 7, none⟩ = some (.slice A n cap) := hN.box.cell 7
    have b2 : wr.cell? ⟨w.heap.size, 2, none⟩ = some (.int .u32 (sq : Int)) := hN.box.cell 2
    by_cases hjl : j < n
    · have hjI : (j : Int) < (n : Int) := by omega
      obtain ⟨nn, hnn⟩ : ∃ x, (sq + j) % 4294967296 = x := ⟨_, rfl⟩
      have hnnI : ((sq : Int) + (j : Int)) % 4294967296 = (nn : Int) := by omega
      have hnl : nn < 4294967296 := by omega
      have hjd : j < data.length := by rw [Hdl.out]; exact hjl
      obtain ⟨gD, oD, rfl, hcD⟩ := (hN.bs.open).2.2.2.resolve_left (by omega)
      have cD := hcD j hjd
      have hsn := rPut_snoc r q sq data[j] (data.take j) lt 0
      rw [← take_snoc data j hjd, List.length_take, Nat.min_eq_left (by omega), Nat.zero_add, hnn] at hsn
      have hll := rPut_len r q sq (data.take j) lt 0
      rw [List.length_take, Nat.min_eq_left (by omega)] at hll
      have hll2 := H2.out.len
      generalize data[j] = bb at cD hsn
      generalize rPut lt r q sq (data.take j) 0 = lt1 at hsn hll hN HN
      obtain ⟨ob, hob⟩ : ∃ x, ltFind lt1 nn = x := ⟨_, rfl⟩
      obtain ⟨aw, haw⟩ : ∃ x, decide (mSub nn r < 16384 - rl) = x := ⟨_, rfl⟩
      have b7' : wr.cell? ⟨g, 7, none⟩ = some vo1 := hN.at_.tab.cell 7
      have hAt := rat_at g lt1 vo1 nn wr (by omega) b7' hN.at_.out.rowN hN.num
      rw [hob] at hAt
      have hAw := rawaited_at g Ar rl capr r nn wr hrl2 hr2 hnl (hN.at_.tab.cell 6) (by rw [← Hr.out]; exact hN.at_.tab.cell 3)
      rw [haw] at hAw
      have HAt := hid hAt
      have HAw := hid hAw
      have Hsn := hid hsn
      have hj1 : IntKind.i64.wrap ((j : Int) + 1) = ((j + 1 : Nat) : Int) := by rw [IntWalk.i64_in _ (by omega)]; omega
      have Hput := hid (show rPut1 lt1 r q nn bb = if ob = none ∧ aw = true then lt1 ++ [(nn, bb)] else lt1 by
        unfold rPut1
        rw [hob, hqs, ← haw]
        by_cases h1 : ob = none ∧ mSub nn r < 16384 - rl
        · rw [if_pos h1, if_pos ⟨h1.1, decide_eq_true h1.2⟩]
        · rw [if_neg h1, if_neg (fun h => h1 ⟨h.1, of_decide_eq_true h.2⟩)])
      have Hhl := hid (show lt1.length ≤ 2000000 by omega)
      have cD' : wr.cell? ⟨gD, oD + j, none⟩ = some (.int .u8 (bb.toNat : Int)) := cD
      clear hAt hAw hsn hob haw hll hll2 hcD cD hnn hN
      have hcs : aw = false ∨ (aw = true ∧ ∃ y, ob = some y) ∨ (aw = true ∧ ob = none) := by
        cases aw with
        | false => exact .inl rfl
        | true => cases ob with
          | none => exact .inr (.inr ⟨rfl, rfl⟩)
          | some y => exact .inr (.inl ⟨rfl, y, rfl⟩)
      rcases hcs with rfl | ⟨rfl, y, rfl⟩ | ⟨rfl, rfl⟩
      · go_wp2_with (first
          | (go_at_call 75; refine HAt.out.mono ?_; rintro e w' ⟨rfl, rfl⟩)
          | (go_at_call 76; refine HAw.out.mono ?_; rintro e w' ⟨rfl, q1, rfl⟩)
          | fail)
        go_roundg (n - (j + 1))
        case measure => omega
        case rel => exact ⟨j + 1, vo1, F1, by omega, Nat.le_refl _, rfl, by rw [Hsn.out, Hput.out, if_neg (fun h => by cases h.2)]; exact HN.out.keep (below_drewN (Below.refl _ _) q1)⟩
      · go_wp2_with (first
          | (go_at_call 75; refine HAt.out.mono ?_; rintro e w' ⟨rfl, rfl⟩)
          | (go_at_call 76; refine HAw.out.mono ?_; rintro e w' ⟨rfl, q1, rfl⟩)
          | fail)
        go_roundg (n - (j + 1))
        case measure => omega
        case rel => exact ⟨j + 1, vo1, F1, by omega, Nat.le_refl _, rfl, by rw [Hsn.out, Hput.out, if_neg (fun h => by cases h.1)]; exact HN.out.keep (below_drewN (Below.refl _ _) q1)⟩
      · have Hput2 := hid (show rPut lt r q sq (data.take (j + 1)) 0 = lt1 ++ [(nn, bb)] by rw [Hsn.out, Hput.out, if_pos ⟨rfl, rfl⟩])
        go_upto_region 9 with (first
          | (go_at_call 75; refine HAt.out.mono ?_; rintro e w' ⟨rfl, rfl⟩)
          | (go_at_call 76; refine HAw.out.mono ?_; rintro e w'' ⟨rfl, q1, rfl⟩)
          | fail)
        have HN3 := hid (HN.out.keep (below_drewN (Below.refl _ _) q1))
        have cDd := cell_below (below_drewN (Below.refl _ _) q1) cD'
        have c7d := cell_below (below_drewN (Below.refl _ _) q1) b7'
        clear HAt HAw Hsn HN b7 b2 b7' cD'
        generalize World.drewN _ q1 = wd at *
        obtain ⟨ln, hln⟩ : ∃ x, lt1.length = x := ⟨_, rfl⟩
        have Hln := hid hln
        have hll := Hhl.out
        rw [hln] at hll
        have hro := HN3.out.at_.out
        rw [hln] at hro
        have Hrow := hid hro
        have c7b := cell_below (below_alloc wd (.cells #[.int .u32 (nn : Int), .int .u8 (bb.toNat : Int)] 122)) c7d
        have cDb := cell_below (below_alloc wd (.cells #[.int .u32 (nn : Int), .int .u8 (bb.toNat : Int)] 122)) cDd
        have hgF : ∀ z, F1 z → z ≠ w.heap.size := fun z hz e => by
          rcases HN3.out.fn z hz with r1 | r1
          · have := HF.out z r1; omega
          · omega
        have hgD : ¬ F1 gD := fun q0 => by
          obtain ⟨d1, d2⟩ := (HDB.out.resolve_left (by omega)) gD rfl
          rcases HN3.out.fn gD q0 with r1 | r1
          · exact d1 r1
          · omega
        have HSX := hid (show ∀ wx, Frame F1 wd wx → Blk wx w.heap.size 51 [.int .i64 s0, .int .i64 d0, .int .u32 (sq : Int), .int .u32 (ak : Int), .int .i64 fl, .int .i64 wi, .int .i64 ms, .slice (some ⟨gD, oD, none⟩) n cap] ∧ wx.cell? ⟨gD, oD + j, none⟩ = some (.int .u8 (bb.toNat : Int)) from fun wx hfr => ⟨hfr.blk HN3.out.box (fun e => hgF _ e rfl), cell_frame hfr cDd hgD⟩)
        have HgD := hid hgD
        clear hgF hgD hro hln
        refine wp_region_held_drew (S := fun wy => Blk wy w.heap.size 51 [.int .i64 s0, .int .i64 d0, .int .u32 (sq : Int), .int .u32 (ak : Int), .int .i64 fl, .int .i64 wi, .int .i64 ms, .slice (some ⟨gD, oD, none⟩) n cap] ∧ wy.cell? ⟨gD, oD + j, none⟩ = some (.int .u8 (bb.toNat : Int))) (by kernel_rfl) (by first | exact HSX.out _ (Below.frameF (below_drew wd) F1) | exact HSX.out _ (Below.frameF (below_alloc' (below_drew wd) _) F1) | exact HSX.out _ (Below.frameF ((below_alloc wd _).drew) F1) | exact HSX.out _ Hf6.out | exact HSX.out _ Hf7.out) (fun _ => ?_)
        (refine wpAnyH_take (i := 0) (v := .pointer (some ⟨g, 0, none⟩)) rfl (by kernel_rfl) (by kernel_rfl) (by kernel_rfl) (fun _ _ _ h => h) (Or.inl ⟨by rfl, by intro wq hSw; skip; go_simp⟩) (by first | exact HSX.out _ (Below.frameF (below_drew wd) F1) | exact HSX.out _ (Below.frameF (below_alloc' (below_drew wd) _) F1) | exact HSX.out _ (Below.frameF ((below_alloc wd _).drew) F1) | exact HSX.out _ Hf6.out | exact HSX.out _ Hf7.out) ?_; (try simp only [Act.put, List.setIfInBounds_toArray, List.set_cons_zero, List.set_cons_succ]))
        (refine wpAnyH_take (i := 1) (v := .pointer (some ⟨g, 0, none⟩)) rfl (by kernel_rfl) (by kernel_rfl) (by kernel_rfl) (fun _ _ _ h => h) (Or.inl ⟨by rfl, by intro wq hSw; skip; go_simp⟩) (by first | exact HSX.out _ (Below.frameF (below_drew wd) F1) | exact HSX.out _ (Below.frameF (below_alloc' (below_drew wd) _) F1) | exact HSX.out _ (Below.frameF ((below_alloc wd _).drew) F1) | exact HSX.out _ Hf6.out | exact HSX.out _ Hf7.out) ?_; (try simp only [Act.put, List.setIfInBounds_toArray, List.set_cons_zero, List.set_cons_succ]))
        (refine wpAnyH_take (i := 2) (v := .pointer (some ⟨g, 0, none⟩)) rfl (by kernel_rfl) (by kernel_rfl) (by kernel_rfl) (fun _ _ _ h => h) (Or.inl ⟨by rfl, by intro wq hSw; skip; go_simp⟩) (by first | exact HSX.out _ (Below.frameF (below_drew wd) F1) | exact HSX.out _ (Below.frameF (below_alloc' (below_drew wd) _) F1) | exact HSX.out _ (Below.frameF ((below_alloc wd _).drew) F1) | exact HSX.out _ Hf6.out | exact HSX.out _ Hf7.out) ?_; (try simp only [Act.put, List.setIfInBounds_toArray, List.set_cons_zero, List.set_cons_succ]))
        (refine wpAnyH_take (i := 3) (v := .pointer (some ⟨g, 7, none⟩)) rfl (by kernel_rfl) (by kernel_rfl) (by kernel_rfl) (fun _ _ _ h => h) (Or.inl ⟨by rfl, by intro wq hSw; skip; go_simp⟩) (by first | exact HSX.out _ (Below.frameF (below_drew wd) F1) | exact HSX.out _ (Below.frameF (below_alloc' (below_drew wd) _) F1) | exact HSX.out _ (Below.frameF ((below_alloc wd _).drew) F1) | exact HSX.out _ Hf6.out | exact HSX.out _ Hf7.out) ?_; (try simp only [Act.put, List.setIfInBounds_toArray, List.set_cons_zero, List.set_cons_succ]))
        (refine wpAnyH_take (i := 5) (v := .int .u32 (nn : Int)) rfl (by kernel_rfl) (by kernel_rfl) (by kernel_rfl) (fun _ _ _ h => h) (Or.inl ⟨by rfl, by intro wq hSw; skip; go_simp⟩) (by first | exact HSX.out _ (Below.frameF (below_drew wd) F1) | exact HSX.out _ (Below.frameF (below_alloc' (below_drew wd) _) F1) | exact HSX.out _ (Below.frameF ((below_alloc wd _).drew) F1) | exact HSX.out _ Hf6.out | exact HSX.out _ Hf7.out) ?_; (try simp only [Act.put, List.setIfInBounds_toArray, List.set_cons_zero, List.set_cons_succ]))
        (refine wpAnyH_take (i := 6) (v := .pointer (some ⟨w.heap.size, 7, none⟩)) rfl (by kernel_rfl) (by kernel_rfl) (by kernel_rfl) (fun _ _ _ h => h) (Or.inl ⟨by rfl, by intro wq hSw; skip; go_simp⟩) (by first | exact HSX.out _ (Below.frameF (below_drew wd) F1) | exact HSX.out _ (Below.frameF (below_alloc' (below_drew wd) _) F1) | exact HSX.out _ (Below.frameF ((below_alloc wd _).drew) F1) | exact HSX.out _ Hf6.out | exact HSX.out _ Hf7.out) ?_; (try simp only [Act.put, List.setIfInBounds_toArray, List.set_cons_zero, List.set_cons_succ]))
        (refine wpAnyH_take (i := 7) (v := .slice (some ⟨gD, oD, none⟩) n cap) rfl (by kernel_rfl) (by kernel_rfl) (by kernel_rfl) (fun _ _ _ h => h) (Or.inl ⟨by rfl, by intro wq hSw; have k7 := hSw.1.cell 7; go_simp⟩) (by first | exact HSX.out _ (Below.frameF (below_drew wd) F1) | exact HSX.out _ (Below.frameF (below_alloc' (below_drew wd) _) F1) | exact HSX.out _ (Below.frameF ((below_alloc wd _).drew) F1) | exact HSX.out _ Hf6.out | exact HSX.out _ Hf7.out) ?_; (try simp only [Act.put, List.setIfInBounds_toArray, List.set_cons_zero, List.set_cons_succ]))
        (refine wpAnyH_take (i := 8) (v := .int .i64 (j : Int)) rfl (by kernel_rfl) (by kernel_rfl) (by kernel_rfl) (fun _ _ _ h => h) (Or.inl ⟨by rfl, by intro wq hSw; skip; go_simp⟩) (by first | exact HSX.out _ (Below.frameF (below_drew wd) F1) | exact HSX.out _ (Below.frameF (below_alloc' (below_drew wd) _) F1) | exact HSX.out _ (Below.frameF ((below_alloc wd _).drew) F1) | exact HSX.out _ Hf6.out | exact HSX.out _ Hf7.out) ?_; (try simp only [Act.put, List.setIfInBounds_toArray, List.set_cons_zero, List.set_cons_succ]))
        (refine wpAnyH_take (i := 9) (v := .pointer (some ⟨gD, oD + j, none⟩)) rfl (by kernel_rfl) (by kernel_rfl) (by kernel_rfl) (fun _ _ _ h => h) (Or.inl ⟨by rfl, by intro wq hSw; skip; go_simp⟩) (by first | exact HSX.out _ (Below.frameF (below_drew wd) F1) | exact HSX.out _ (Below.frameF (below_alloc' (below_drew wd) _) F1) | exact HSX.out _ (Below.frameF ((below_alloc wd _).drew) F1) | exact HSX.out _ Hf6.out | exact HSX.out _ Hf7.out) ?_; (try simp only [Act.put, List.setIfInBounds_toArray, List.set_cons_zero, List.set_cons_succ]))
        (refine wpAnyH_take (i := 10) (v := .int .u8 (bb.toNat : Int)) rfl (by kernel_rfl) (by kernel_rfl) (by kernel_rfl) (fun _ _ _ h => h) (Or.inl ⟨by rfl, by intro wq hSw; have k7 := hSw.2; go_simp⟩) (by first | exact HSX.out _ (Below.frameF (below_drew wd) F1) | exact HSX.out _ (Below.frameF (below_alloc' (below_drew wd) _) F1) | exact HSX.out _ (Below.frameF ((below_alloc wd _).drew) F1) | exact HSX.out _ Hf6.out | exact HSX.out _ Hf7.out) ?_; (try simp only [Act.put, List.setIfInBounds_toArray, List.set_cons_zero, List.set_cons_succ]))
        (refine wpAnyH_take (i := 11) (v := .agg #[.int .u32 (nn : Int), .int .u8 (bb.toNat : Int)]) rfl (by kernel_rfl) (by kernel_rfl) (by kernel_rfl) (fun _ _ _ h => h) (Or.inl ⟨by rfl, by intro wq hSw; skip; go_simp⟩) (by first | exact HSX.out _ (Below.frameF (below_drew wd) F1) | exact HSX.out _ (Below.frameF (below_alloc' (below_drew wd) _) F1) | exact HSX.out _ (Below.frameF ((below_alloc wd _).drew) F1) | exact HSX.out _ Hf6.out | exact HSX.out _ Hf7.out) ?_; (try simp only [Act.put, List.setIfInBounds_toArray, List.set_cons_zero, List.set_cons_succ]))
        (refine wpAnyH_ready (rs := [4, 12]) (by kernel_rfl) (by simp) ?_; refine (AllReadyH.cons rfl (fun K hK => ?_) (AllReadyH.cons rfl (fun K hK => ?_) AllReadyH.nil)))
        · go_simp
          (refine hK.out _ _ (by first | exact HSX.out _ (Below.frameF (below_drew wd) F1) | exact HSX.out _ (Below.frameF (below_alloc' (below_drew wd) _) F1) | exact HSX.out _ (Below.frameF ((below_alloc wd _).drew) F1) | exact HSX.out _ Hf6.out | exact HSX.out _ Hf7.out) (fun _ => ?_); clear hK K; (try simp only [Act.put, List.setIfInBounds_toArray, List.set_cons_zero, List.set_cons_succ]))
          (refine wpAnyH_ready (rs := [12]) (by kernel_rfl) (by simp) ?_; refine (AllReadyH.cons rfl (fun K hK => ?_) AllReadyH.nil))
          go_simp
          (refine hK.out _ _ (by first | exact HSX.out _ (Below.frameF (below_drew wd) F1) | exact HSX.out _ (Below.frameF (below_alloc' (below_drew wd) _) F1) | exact HSX.out _ (Below.frameF ((below_alloc wd _).drew) F1) | exact HSX.out _ Hf6.out | exact HSX.out _ Hf7.out) (fun _ => ?_); clear hK K; (try simp only [Act.put, List.setIfInBounds_toArray, List.set_cons_zero, List.set_cons_succ]))
          (refine wpAnyH_ready (rs := [13]) (by kernel_rfl) (by simp) ?_; refine (AllReadyH.cons rfl (fun K hK => ?_) AllReadyH.nil))
          (refine step_app_atS _ (by rfl) _ _ 56 (by rfl) base 122 (.agg #[.int .u32 0, .int .u8 0]) 2 8 laterok vo1 ln (ltRow lt1) (by rfl) (by first | exact Hrow.out.keep ((below_alloc wd _).drew) | exact Hrow.out.keep (below_alloc' (below_drew wd) _)) (.slice (some ⟨wd.heap.size, 0, none⟩) 1 1) 1 [.int .u32 (nn : Int), .int .u8 (bb.toNat : Int)] (by rfl) (by first | exact rowS_lit 2 #[.int .u32 (nn : Int), .int .u8 (bb.toNat : Int)] 1 _ rfl rfl (by simp [maxLen]) | exact (rowS_lit 2 #[.int .u32 (nn : Int), .int .u8 (bb.toNat : Int)] 1 _ rfl rfl (by simp [maxLen])).drew) (by simp [Value.oneCell']) (by decide) (by omega) (by simp only [maxLen]; omega) (by have := HN3.out.at_.base_le; simp; omega) ?_; intro v6 w6 hr6 hg6 hv6; have hwy : Below wd.heap.size wd _ := (by first | exact (below_alloc wd (.cells #[.int .u32 (nn : Int), .int .u8 (bb.toNat : Int)] 122)).drew | exact below_alloc' (below_drew wd) (.cells #[.int .u32 (nn : Int), .int .u8 (bb.toNat : Int)] 122)); obtain ⟨A6, cap6, rfl⟩ : ∃ A c, v6 = .slice A (ln + 1) c := (by obtain ⟨_, A, c, h, _⟩ := hr6.rowN; exact ⟨A, c, h⟩); have Hsw := hid ((HN3.out.at_.keep hwy).swapOut (lt' := lt1 ++ [(nn, bb)]) (by rw [ltRow_snoc, List.length_append, Hln.out]; exact hr6) hg6); have Hwy := hid hwy; have htab := (HN3.out.at_.keep hwy).tab.grown hg6 (fun e => (HN3.out.at_.keep hwy).out.ne (HN3.out.at_.keep hwy).tab (by decide) e.symm); have e7 : w6.cell? ⟨g, 7, none⟩ = some vo1 := htab.cell 7; have z7 := htab.frozen 7; have Hf6 := hid ((Below.frameF hwy F1).trans (frame_grown hg6 (F := F1) (fun z hz => HN3.out.at_.fo z hz)) (fun _ _ h => h)); have Hf7 := hid ((Below.frameF hwy F1).trans Hsw.out.2 (fun _ _ h => h)); have Hv6 := hid (show ∀ z, (Value.slice A6 (ln + 1) cap6).ownBlock = some z → F1 z ∨ wd.heap.size ≤ z from fun z hz => (by rcases hv6 with q | q; exact .inl (HN3.out.at_.fo z (by rw [← q]; exact hz)); rw [q] at hz; injection hz with hz; have := hwy.size; exact .inr (by omega))); clear hwy hr6 hg6 hv6 htab)
          (refine hK.out _ _ (by first | exact HSX.out _ (Below.frameF (below_drew wd) F1) | exact HSX.out _ (Below.frameF (below_alloc' (below_drew wd) _) F1) | exact HSX.out _ (Below.frameF ((below_alloc wd _).drew) F1) | exact HSX.out _ Hf6.out | exact HSX.out _ Hf7.out) (fun _ => ?_); clear hK K; (try simp only [Act.put, List.setIfInBounds_toArray, List.set_cons_zero, List.set_cons_succ]))
          (refine wpAnyH_ready (rs := [14]) (by kernel_rfl) (by simp) ?_; refine (AllReadyH.cons rfl (fun K hK => ?_) AllReadyH.nil))
          go_simp
          (refine hK.out _ _ (by first | exact HSX.out _ (Below.frameF (below_drew wd) F1) | exact HSX.out _ (Below.frameF (below_alloc' (below_drew wd) _) F1) | exact HSX.out _ (Below.frameF ((below_alloc wd _).drew) F1) | exact HSX.out _ Hf6.out | exact HSX.out _ Hf7.out) (fun _ => ?_); clear hK K; (try simp only [Act.put, List.setIfInBounds_toArray, List.set_cons_zero, List.set_cons_succ]))
          (refine wpAnyH_ready (rs := [15]) (by kernel_rfl) (by simp) ?_; refine (AllReadyH.cons rfl (fun K hK => ?_) AllReadyH.nil))
          go_simp
          (refine hK.out _ _ (by first | exact HSX.out _ (Below.frameF (below_drew wd) F1) | exact HSX.out _ (Below.frameF (below_alloc' (below_drew wd) _) F1) | exact HSX.out _ (Below.frameF ((below_alloc wd _).drew) F1) | exact HSX.out _ Hf6.out | exact HSX.out _ Hf7.out) (fun _ => ?_); clear hK K; (try simp only [Act.put, List.setIfInBounds_toArray, List.set_cons_zero, List.set_cons_succ]))
          (refine wpAnyH_ready (rs := [16]) (by kernel_rfl) (by simp) ?_; refine (AllReadyH.cons rfl (fun K hK => ?_) AllReadyH.nil))
          go_simp
          (refine hK.out _ _ (by first | exact HSX.out _ (Below.frameF (below_drew wd) F1) | exact HSX.out _ (Below.frameF (below_alloc' (below_drew wd) _) F1) | exact HSX.out _ (Below.frameF ((below_alloc wd _).drew) F1) | exact HSX.out _ Hf6.out | exact HSX.out _ Hf7.out) (fun _ => ?_); clear hK K; (try simp only [Act.put, List.setIfInBounds_toArray, List.set_cons_zero, List.set_cons_succ]))
          refine wpAnyH_done (by kernel_rfl) ?_ _
          go_wp2_with fail
          go_roundg (n - (j + 1))
          case measure => omega
          case rel =>
            refine ⟨j + 1, .slice A6 (ln + 1) cap6, fun k => F1 k ∨ (Value.slice A6 (ln + 1) cap6).ownBlock = some k, by omega, Nat.le_refl _, rfl, ?_⟩
            rw [Hput2.out]
            have hbx := HN3.out.box.lt
            refine ⟨Hsw.out.1, (HSX.out _ Hf7.out).1, bs_frame HN3.out.bs Hf7.out (.inr fun z hz => by injection hz with hz; subst hz; exact HgD.out), HN3.out.fr.trans Hf7.out (fun z hz q0 => ?_), fun z hz => ?_, fun x hx => ?_⟩
            · rcases HN3.out.fn z q0 with r1 | r1
              · exact r1
              · omega
            · rcases hz with hz | hz
              · exact HN3.out.fn z hz
              · rcases Hv6.out z hz with r1 | r1
                · exact HN3.out.fn z r1
                · exact .inr (by omega)
            · rcases List.mem_append.1 hx with hx | hx
              · exact HN3.out.num x hx
              · simp at hx; subst hx; exact hnl
        · go_simp
          (refine hK.out _ _ (by first | exact HSX.out _ (Below.frameF (below_drew wd) F1) | exact HSX.out _ (Below.frameF (below_alloc' (below_drew wd) _) F1) | exact HSX.out _ (Below.frameF ((below_alloc wd _).drew) F1) | exact HSX.out _ Hf6.out | exact HSX.out _ Hf7.out) (fun _ => ?_); clear hK K; (try simp only [Act.put, List.setIfInBounds_toArray, List.set_cons_zero, List.set_cons_succ]))
          (refine wpAnyH_ready (rs := [4]) (by kernel_rfl) (by simp) ?_; refine (AllReadyH.cons rfl (fun K hK => ?_) AllReadyH.nil))
          go_simp
          (refine hK.out _ _ (by first | exact HSX.out _ (Below.frameF (below_drew wd) F1) | exact HSX.out _ (Below.frameF (below_alloc' (below_drew wd) _) F1) | exact HSX.out _ (Below.frameF ((below_alloc wd _).drew) F1) | exact HSX.out _ Hf6.out | exact HSX.out _ Hf7.out) (fun _ => ?_); clear hK K; (try simp only [Act.put, List.setIfInBounds_toArray, List.set_cons_zero, List.set_cons_succ]))
          (refine wpAnyH_ready (rs := [13]) (by kernel_rfl) (by simp) ?_; refine (AllReadyH.cons rfl (fun K hK => ?_) AllReadyH.nil))
          (refine step_app_atS _ (by rfl) _ _ 56 (by rfl) base 122 (.agg #[.int .u32 0, .int .u8 0]) 2 8 laterok vo1 ln (ltRow lt1) (by rfl) (by first | exact Hrow.out.keep ((below_alloc wd _).drew) | exact Hrow.out.keep (below_alloc' (below_drew wd) _)) (.slice (some ⟨wd.heap.size, 0, none⟩) 1 1) 1 [.int .u32 (nn : Int), .int .u8 (bb.toNat : Int)] (by rfl) (by first | exact rowS_lit 2 #[.int .u32 (nn : Int), .int .u8 (bb.toNat : Int)] 1 _ rfl rfl (by simp [maxLen]) | exact (rowS_lit 2 #[.int .u32 (nn : Int), .int .u8 (bb.toNat : Int)] 1 _ rfl rfl (by simp [maxLen])).drew) (by simp [Value.oneCell']) (by decide) (by omega) (by simp only [maxLen]; omega) (by have := HN3.out.at_.base_le; simp; omega) ?_; intro v6 w6 hr6 hg6 hv6; have hwy : Below wd.heap.size wd _ := (by first | exact (below_alloc wd (.cells #[.int .u32 (nn : Int), .int .u8 (bb.toNat : Int)] 122)).drew | exact below_alloc' (below_drew wd) (.cells #[.int .u32 (nn : Int), .int .u8 (bb.toNat : Int)] 122)); obtain ⟨A6, cap6, rfl⟩ : ∃ A c, v6 = .slice A (ln + 1) c := (by obtain ⟨_, A, c, h, _⟩ := hr6.rowN; exact ⟨A, c, h⟩); have Hsw := hid ((HN3.out.at_.keep hwy).swapOut (lt' := lt1 ++ [(nn, bb)]) (by rw [ltRow_snoc, List.length_append, Hln.out]; exact hr6) hg6); have Hwy := hid hwy; have htab := (HN3.out.at_.keep hwy).tab.grown hg6 (fun e => (HN3.out.at_.keep hwy).out.ne (HN3.out.at_.keep hwy).tab (by decide) e.symm); have e7 : w6.cell? ⟨g, 7, none⟩ = some vo1 := htab.cell 7; have z7 := htab.frozen 7; have Hf6 := hid ((Below.frameF hwy F1).trans (frame_grown hg6 (F := F1) (fun z hz => HN3.out.at_.fo z hz)) (fun _ _ h => h)); have Hf7 := hid ((Below.frameF hwy F1).trans Hsw.out.2 (fun _ _ h => h)); have Hv6 := hid (show ∀ z, (Value.slice A6 (ln + 1) cap6).ownBlock = some z → F1 z ∨ wd.heap.size ≤ z from fun z hz => (by rcases hv6 with q | q; exact .inl (HN3.out.at_.fo z (by rw [← q]; exact hz)); rw [q] at hz; injection hz with hz; have := hwy.size; exact .inr (by omega))); clear hwy hr6 hg6 hv6 htab)
          (refine hK.out _ _ (by first | exact HSX.out _ (Below.frameF (below_drew wd) F1) | exact HSX.out _ (Below.frameF (below_alloc' (below_drew wd) _) F1) | exact HSX.out _ (Below.frameF ((below_alloc wd _).drew) F1) | exact HSX.out _ Hf6.out | exact HSX.out _ Hf7.out) (fun _ => ?_); clear hK K; (try simp only [Act.put, List.setIfInBounds_toArray, List.set_cons_zero, List.set_cons_succ]))
          (refine wpAnyH_ready (rs := [14]) (by kernel_rfl) (by simp) ?_; refine (AllReadyH.cons rfl (fun K hK => ?_) AllReadyH.nil))
          go_simp
          (refine hK.out _ _ (by first | exact HSX.out _ (Below.frameF (below_drew wd) F1) | exact HSX.out _ (Below.frameF (below_alloc' (below_drew wd) _) F1) | exact HSX.out _ (Below.frameF ((below_alloc wd _).drew) F1) | exact HSX.out _ Hf6.out | exact HSX.out _ Hf7.out) (fun _ => ?_); clear hK K; (try simp only [Act.put, List.setIfInBounds_toArray, List.set_cons_zero, List.set_cons_succ]))
          (refine wpAnyH_ready (rs := [15]) (by kernel_rfl) (by simp) ?_; refine (AllReadyH.cons rfl (fun K hK => ?_) AllReadyH.nil))
          go_simp
          (refine hK.out _ _ (by first | exact HSX.out _ (Below.frameF (below_drew wd) F1) | exact HSX.out _ (Below.frameF (below_alloc' (below_drew wd) _) F1) | exact HSX.out _ (Below.frameF ((below_alloc wd _).drew) F1) | exact HSX.out _ Hf6.out | exact HSX.out _ Hf7.out) (fun _ => ?_); clear hK K; (try simp only [Act.put, List.setIfInBounds_toArray, List.set_cons_zero, List.set_cons_succ]))
          (refine wpAnyH_ready (rs := [16]) (by kernel_rfl) (by simp) ?_; refine (AllReadyH.cons rfl (fun K hK => ?_) AllReadyH.nil))
          go_simp
          (refine hK.out _ _ (by first | exact HSX.out _ (Below.frameF (below_drew wd) F1) | exact HSX.out _ (Below.frameF (below_alloc' (below_drew wd) _) F1) | exact HSX.out _ (Below.frameF ((below_alloc wd _).drew) F1) | exact HSX.out _ Hf6.out | exact HSX.out _ Hf7.out) (fun _ => ?_); clear hK K; (try simp only [Act.put, List.setIfInBounds_toArray, List.set_cons_zero, List.set_cons_succ]))
          refine wpAnyH_done (by kernel_rfl) ?_ _
          go_wp2_with fail
          go_roundg (n - (j + 1))
          case measure => omega
          case rel =>
            refine ⟨j + 1, .slice A6 (ln + 1) cap6, fun k => F1 k ∨ (Value.slice A6 (ln + 1) cap6).ownBlock = some k, by omega, Nat.le_refl _, rfl, ?_⟩
            rw [Hput2.out]
            have hbx := HN3.out.box.lt
            refine ⟨Hsw.out.1, (HSX.out _ Hf7.out).1, bs_frame HN3.out.bs Hf7.out (.inr fun z hz => by injection hz with hz; subst hz; exact HgD.out), HN3.out.fr.trans Hf7.out (fun z hz q0 => ?_), fun z hz => ?_, fun x hx => ?_⟩
            · rcases HN3.out.fn z q0 with r1 | r1
              · exact r1
              · omega
            · rcases hz with hz | hz
              · exact HN3.out.fn z hz
              · rcases Hv6.out z hz with r1 | r1
                · exact HN3.out.fn z r1
                · exact .inr (by omega)
            · rcases List.mem_append.1 hx with hx | hx
              · exact HN3.out.num x hx
              · simp at hx; subst hx; exact hnl
    · obtain rfl : j = n := by omega
      have hjI : ¬ (j : Int) < (j : Int) := by omega
      rw [List.take_of_length_le (by rw [Hdl.out]; exact Nat.le_refl _)] at hN HN
      obtain ⟨en, hen⟩ : ∃ x, (sq + j) % 4294967296 = x := ⟨_, rfl⟩
      have henI : ((sq : Int) + (j : Int)) % 4294967296 = (en : Int) := by omega
      have henl : en < 4294967296 := by omega
      obtain ⟨f1, hf1⟩ : ∃ b, (bits .and .i64 fl 1 != 0) = b := ⟨_, rfl⟩
      obtain ⟨tl, htl⟩ : ∃ b, c.inn.told = b := ⟨_, rfl⟩
      have b4 : wr.cell? ⟨w.heap.size, 4, none⟩ = some (.int .i64 fl) := hN.box.cell 4
      have a9 : wr.cell? ⟨g, 9, none⟩ = some (.bool tl) := by rw [← htl]; exact hN.at_.tab.cell 9
      have a8 : wr.cell? ⟨g, 8, none⟩ = some (.int .u32 (c.inn.fin : Int)) := hN.at_.tab.cell 8
      have a3 : wr.cell? ⟨g, 3, none⟩ = some (.int .u32 (r : Int)) := by rw [← Hr.out]; exact hN.at_.tab.cell 3
      have z9 := hN.at_.tab.frozen 9
      have z8 := hN.at_.tab.frozen 8
      have hAw := rawaited_at g Ar rl capr r en wr hrl2 hr2 henl (hN.at_.tab.cell 6) a3
      obtain ⟨aw, haw⟩ : ∃ x, decide (mSub en r < 16384 - rl) = x := ⟨_, rfl⟩
      rw [haw] at hAw
      have HAw := hid hAw
      have hqI : ((16384 : Int) - (rl : Int)) % 4294967296 = (q : Int) := by omega
      obtain ⟨rq, hrq⟩ : ∃ x, (r + q) % 4294967296 = x := ⟨_, rfl⟩
      have hrqI : ((r : Int) + (q : Int)) % 4294967296 = (rq : Int) := by omega
      have Hno := hid (show tNote c.inn ⟨s0, d0, sq, ak, fl, wi, ms, data⟩ = if f1 = true ∧ tl = false ∧ (aw = true ∨ en = rq) then { c.inn with early := earlyPut c.inn.early r q sq data 0, told := true, fin := en } else { c.inn with early := earlyPut c.inn.early r q sq data 0 } by
        unfold tNote
        have e1 : (sq + data.length) % 4294967296 = en := by rw [Hdl.out]; exact hen
        have e2 : (aw = true ∨ en = rq) ↔ mSub en r ≤ q := by
          rw [← haw, decide_eq_true_eq, ← hrq, ← hqs]
          unfold mSub
          omega
        simp only [e1, Hr.out, Hq.out, tBit, hf1, htl]
        by_cases hc : f1 = true ∧ tl = false ∧ mSub en r ≤ q
        · rw [if_pos hc, if_pos ⟨hc.1, hc.2.1, e2.2 hc.2.2⟩]
        · rw [if_neg hc, if_neg (fun h => hc ⟨h.1, h.2.1, e2.1 h.2.2⟩)])
      obtain ⟨lt1, hlt1⟩ : ∃ x, rPut lt r q sq data 0 = x := ⟨_, rfl⟩
      have Hrel := hid (show LtRel (earlyPut c.inn.early r q sq data 0) lt1 by rw [← hlt1]; exact rPut_rel r q sq data c.inn.early lt 0 (H2.out.early Hdn.out))
      have Hll := hid (show lt1.length ≤ qm + j by have h1 := rPut_len r q sq data lt 0; have h2 := H2.out.len; rw [hlt1, Hdl.out] at h1; omega)
      rw [hlt1] at hN HN
      have Htl := hid htl
      have Hdn2 := hid (show (tNote c.inn ⟨s0, d0, sq, ak, fl, wi, ms, data⟩).done = false by rw [(tNote_done c.inn _).1]; exact Hdn.out)
      have Hok2 := hid (tNote_ok Hi.out ⟨s0, d0, sq, ak, fl, wi, ms, data⟩)
      have hN1 := hN.at_
      have HFr := hid hN.fr
      have HFn := hid hN.fn
      have HNm := hid hN.num
      have HN1 := hid hN1
      have Hf1 := hid hf1
      clear hAw haw hlt1 htl hen hrq hf1 hN HN hN1 hs hjl
      go_upto_region 11 with fail
      rw [henI]
      obtain ⟨cb, hcb⟩ : ∃ b, (f1 && !tl && (aw || decide (en = rq))) = b := ⟨_, rfl⟩
      have Hno := hid (show tNote c.inn ⟨s0, d0, sq, ak, fl, wi, ms, data⟩ = if cb = true then { c.inn with early := earlyPut c.inn.early r q sq data 0, told := true, fin := en } else { c.inn with early := earlyPut c.inn.early r q sq data 0 } by
        rw [Hno.out]
        by_cases h : f1 = true ∧ tl = false ∧ (aw = true ∨ en = rq)
        · rw [if_pos h, if_pos (by rw [← hcb]; obtain ⟨h1, h2, h3⟩ := h; simp [h1, h2, h3])]
        · rw [if_neg h, if_neg (by rw [← hcb]; intro e; simp at e; exact h ⟨e.1.1, e.1.2, e.2⟩)])
      have Hcb := hid hcb
      clear hcb
      go_cut [95] from 69 to 95 (fun s wx => s = .bool cb ∧ ∃ q1, wx = wr.drewN q1)
      case first =>
        have hf1 := Hf1.out
        have hcs : f1 = false ∧ cb = false ∨ f1 = true ∧ (tl = true ∧ cb = false ∨ tl = false ∧ (aw = true ∧ cb = true ∨ aw = false ∧ (en = rq ∧ cb = true ∨ en ≠ rq ∧ ((en : Int) == (rq : Int)) = false ∧ cb = false))) := by
          rw [← Hcb.out]
          cases f1 <;> cases tl <;> cases aw <;> simp <;> omega
        have Hz := hid (show ∃ q1, wr = wr.drewN q1 from ⟨0, rfl⟩)
        clear Hcb
        rcases hcs with ⟨rfl, rfl⟩ | ⟨rfl, ⟨rfl, rfl⟩ | ⟨rfl, ⟨rfl, rfl⟩ | ⟨rfl, ⟨rfl, rfl⟩ | ⟨hne, hneb, rfl⟩⟩⟩⟩
        · go_wp2_with fail
          go_meet
          case rel => exact ⟨rfl, Hz.out⟩
        · go_wp2_with fail
          go_meet
          case rel => exact ⟨rfl, Hz.out⟩
        all_goals
          go_wp2_with (first | (go_at_call 76; refine HAw.out.mono ?_; rintro e w'' ⟨rfl, q1, rfl⟩) | fail)
          go_meet
          case rel => exact ⟨by first | rfl | (simp; done) | (simp; omega), q1, rfl⟩
      case rest =>
      obtain ⟨rfl, q1, rfl⟩ := hcut
      have HN1 := hid (HN1.out.drewN q1)
      have HFr := hid (HFr.out.trans (Below.frameF (below_drewN (Below.refl _ _) q1) F) (fun _ _ h => h))
      have z9 : (wr.drewN q1).frozen? ⟨g, 9, none⟩ = false := HN1.out.tab.frozen 9
      have z8 : (wr.drewN q1).frozen? ⟨g, 8, none⟩ = false := HN1.out.tab.frozen 8
      have a9 := cell_below (below_drewN (Below.refl _ _) q1) a9
      have a8 := cell_below (below_drewN (Below.refl _ _) q1) a8
      generalize wr.drewN q1 = w1 at *
      go_upto_if 95 with fail
      go_cut [] from 96 to 102 (fun wx => RcAt wx base g (rcCells { c with inn := tNote c.inn ⟨s0, d0, sq, ak, fl, wi, ms, data⟩ } own owe gv (.slice Ar rl capr) vo1 vs) (.slice Ar rl capr) vo1 vs c.inn.ready lt1 c.out.bytes F1 ∧ Frame F w wx)
      case first =>
        cases cb with
        | false =>
          go_wp2_with fail
          go_meet
          case rel => rw [Hno.out, if_neg (by simp)]; exact ⟨HN1.out, HFr.out⟩
        | true =>
          go_wp2_with fail
          go_meet
          case rel =>
            rw [Hno.out, if_pos (by simp)]
            have h1 := HN1.out
            have h2 := (h1.set1 9 (.bool true)).set1 8 (.int .u32 (en : Int))
            have hFF : ∀ z, z < w.heap.size → F1 z → F z := fun z hz hz1 => by
              rcases HFn.out z hz1 with r1 | r1
              · exact r1
              · omega
            exact ⟨h2, (HFr.out.trans (h1.fset 9 (.bool true)) hFF).trans ((h1.set1 9 (.bool true)).fset 8 (.int .u32 (en : Int))) hFF⟩
      case rest =>
      obtain ⟨hR, hfr⟩ := hcut
      clear b7 b2 b4 a9 a8 a3 z9 z8 HAw hqI hrqI henI HN1 HFr
      generalize wc = w2 at *
      have HR := hid hR
      have HFr := hid hfr
      clear hR hfr
      obtain ⟨I0, hI0⟩ : ∃ x, tNote c.inn ⟨s0, d0, sq, ak, fl, wi, ms, data⟩ = x := ⟨_, rfl⟩
      have hrd : I0.ready = c.inn.ready := by rw [← hI0]; exact (tNote_done c.inn _).2.2.2
      have hea : LtRel I0.early lt1 := by
        rw [← hI0, Hno.out]
        split <;> exact Hrel.out
      obtain ⟨I, hI⟩ : ∃ x, tFlow I0 = x := ⟨_, rfl⟩
      have HI := hid (show tFlow (tNote c.inn ⟨s0, d0, sq, ak, fl, wi, ms, data⟩) = I by rw [hI0]; exact hI)
      rw [hI0] at HR Hdn2 Hok2
      rw [← hrd] at HR
      have HII := hid hI
      have Hea := hid hea
      clear hI0 hrd hea hI Hno Hrel Hcb Hf1 Htl Hdn
      have Hgo := hid (And.intro HR.out (And.intro HFr.out (And.intro Hok2.out (And.intro Hdn2.out (And.intro HNm.out HFn.out)))))
      clear HR HFr Hok2 Hdn2 HNm HFn
      go_upto_region 14 with fail
      go_loopg [10, 11, 12, 13] 16385 (fun gk s10 s11 s12 s13 wr => ∃ (i : TIn) (ltn : List (Nat × UInt8)) (vi2 vo2 : Value) (F2 : Nat → Prop), i.q + 1 ≤ gk ∧ Hid (tFlowN (i.q + 1) i = I) ∧ InOk i ∧ i.done = false ∧ Hid (LtRel i.early ltn) ∧ ltn.length ≤ qm + j ∧ Hid (∀ x ∈ ltn, x.1 < 4294967296) ∧ RcAt wr base g (rcCells { c with inn := i } own owe gv vi2 vo2 vs) vi2 vo2 vs i.ready ltn c.out.bytes F2 ∧ Frame F w wr ∧ Hid (∀ k, F2 k → F k ∨ w.heap.size ≤ k))
      case atStart => exact ⟨I0, lt1, _, vo1, F1, by unfold TIn.q; omega, HII, Hgo.out.2.2.1, Hgo.out.2.2.2.1, Hea, Hll.out, hid Hgo.out.2.2.2.2.1, Hgo.out.1, Hgo.out.2.1, hid (fun k hk => by rcases Hgo.out.2.2.2.2.2 k hk with r1 | r1; exact .inl r1; exact .inr (by omega))⟩
      case round =>
        obtain ⟨i, ltn, vi2, vo2, F2, hgk, HT, hiok, hidn, HE, hln, HN2, hR, hfr, HF2⟩ := hrel
        clear Hgo HII Hea Hll
        obtain ⟨r2, hr2'⟩ : ∃ x, i.r = x := ⟨_, rfl⟩
        obtain ⟨t2, ht2⟩ : ∃ x, i.told = x := ⟨_, rfl⟩
        obtain ⟨f2, hf2⟩ : ∃ x, i.fin = x := ⟨_, rfl⟩
        have hr2l : r2 < 4294967296 := by rw [← hr2']; exact hiok.r
        obtain ⟨ol, hol⟩ : ∃ x, ltn.length = x := ⟨_, rfl⟩
        obtain ⟨OA, ocap, rfl⟩ : ∃ A c2, vo2 = .slice A ol c2 := by rw [← hol]; obtain ⟨_, A, c2, rfl, _⟩ := hR.out.rowN; exact ⟨A, c2, rfl⟩
        obtain ⟨il, hil⟩ : ∃ x, i.ready.length = x := ⟨_, rfl⟩
        obtain ⟨IA, icap, rfl⟩ : ∃ A c2, vi2 = .slice A il c2 := by rw [← hil]; obtain ⟨_, A, c2, rfl, _⟩ := hR.inn.rowN; exact ⟨A, c2, rfl⟩
        have a2 : wr.cell? ⟨g, 2, none⟩ = some (.int .i64 2) := by rw [← Hs2.out]; exact hR.tab.cell 2
        have a9 : wr.cell? ⟨g, 9, none⟩ = some (.bool t2) := by rw [← ht2]; exact hR.tab.cell 9
        have a8 : wr.cell? ⟨g, 8, none⟩ = some (.int .u32 (f2 : Int)) := by rw [← hf2]; exact hR.tab.cell 8
        have a3 : wr.cell? ⟨g, 3, none⟩ = some (.int .u32 (r2 : Int)) := by rw [← hr2']; exact hR.tab.cell 3
        have hun := flow_unfold i hidn
        rw [HT.out] at hun
        have Hun := hid hun
        have HR2 := hid hR
        have HFr2 := hid hfr
        have Hiok := hid hiok
        have Hidn := hid hidn
        have Hr2 := hid hr2'
        have Ht2 := hid (And.intro ht2 hf2)
        have Hol := hid hol
        have Hil := hid hil
        obtain ⟨cb, hcb⟩ : ∃ b, (t2 && decide (f2 = r2)) = b := ⟨_, rfl⟩
        have Hcb2 := hid hcb
        have hol2 : ol ≤ 1100000 := by omega
        have Hlnq := hid (show ol ≤ qm + j by omega)
        clear hun hR hfr hiok hidn hr2' ht2 hf2 hol hil hcb HT hln
        go_upto_region 15 with fail
        go_cut [122] from 108 to 122 (fun s wx => s = .bool cb ∧ ∃ q1, wx = wr.drewN q1)
        case first =>
          have hcs : t2 = false ∧ cb = false ∨ t2 = true ∧ (f2 = r2 ∧ cb = true ∨ f2 ≠ r2 ∧ ((f2 : Int) == (r2 : Int)) = false ∧ cb = false) := by
            rw [← Hcb2.out]
            cases t2 <;> simp <;> omega
          clear Hcb2 Hun
          rcases hcs with ⟨rfl, rfl⟩ | ⟨rfl, ⟨rfl, rfl⟩ | ⟨hne, hneb, rfl⟩⟩
          all_goals
            go_quiet (fail)
            go_wp2_with fail
            go_meet
            case rel => exact ⟨by first | rfl | (simp; done), _, rfl⟩
        case rest =>
        obtain ⟨rfl, q1, rfl⟩ := hcut
        have HR3 := hid (HR2.out.drewN q1)
        have HFr3 := hid (HFr2.out.trans (Below.frameF (below_drewN (Below.refl _ _) q1) F) (fun _ _ h => h))
        clear a2 a9 a8 a3 HR2 HFr2
        generalize wr.drewN q1 = w3 at *
        have a2 : w3.cell? ⟨g, 2, none⟩ = some (.int .i64 2) := by rw [← Hs2.out]; exact HR3.out.tab.cell 2
        have a3 : w3.cell? ⟨g, 3, none⟩ = some (.int .u32 (r2 : Int)) := by rw [← Hr2.out]; exact HR3.out.tab.cell 3
        have a6 : w3.cell? ⟨g, 6, none⟩ = some (.slice IA il icap) := HR3.out.tab.cell 6
        have a7 : w3.cell? ⟨g, 7, none⟩ = some (.slice OA ol ocap) := HR3.out.tab.cell 7
        have z2 := HR3.out.tab.frozen 2
        have z3 := HR3.out.tab.frozen 3
        have z6 := HR3.out.tab.frozen 6
        have z7 := HR3.out.tab.frozen 7
        obtain ⟨rn, hrn⟩ : ∃ x, (i.r + 1) % 4294967296 = x := ⟨_, rfl⟩
        have hr3 : ((r2 : Int) + 1) % 4294967296 = (rn : Int) := by have := Hr2.out; omega
        have Hrn := hid hrn
        clear hrn
        cases cb with
        | true =>
          have hc : i.told = true ∧ i.fin = i.r := by
            have hc := Hcb2.out
            simp only [Bool.and_eq_true, decide_eq_true_eq] at hc
            rw [Ht2.out.1, Ht2.out.2, Hr2.out]
            exact hc
          have HI2 := hid (show I = { i with done := true, r := (i.r + 1) % 4294967296, early := fun _ => none } by rw [Hun.out, if_pos hc])
          clear hc Hun Hcb2
          go_wp2_with fail
          refine end_ret rfl rfl ?_
          unfold RNotePost
          rw [HI.out, HI2.out, Hrn.out]
          simp only [if_true]
          have hFF : ∀ z, z < w.heap.size → F2 z → F z := fun z hz hz1 => by
            rcases HF2.out z hz1 with r1 | r1
            · exact r1
            · omega
          have h1 := HR3.out.set1 3 (.int .u32 (rn : Int))
          have h2 := h1.set1 2 (.int .i64 3)
          refine ⟨⟨_, rfl⟩, F2, ⟨own, owe, gv, [], _, _, vs, h2.nilOut, fun e => (by cases e), fun e => (by cases e), fun _ => H2.out.owe (by rw [Hs2.out]; decide), H2.out.gv, Nat.zero_le _, fun x hx => (by cases hx)⟩, ((HFr3.out.trans (HR3.out.fset 3 _) hFF).trans (h1.fset 2 _) hFF).trans (h2.fset 7 _) hFF, fun z hz => ?_⟩
          rcases HF2.out z hz with r1 | r1
          · exact .inl r1
          · exact .inr (by omega)
        | false =>
          have hc : ¬ (i.told = true ∧ i.fin = i.r) := fun h => by
            have h2 := Hcb2.out
            rw [Ht2.out.1, Ht2.out.2, Hr2.out] at h
            simp [h.1, h.2] at h2
          obtain ⟨ob, hob⟩ : ∃ x, ltFind ltn r2 = x := ⟨_, rfl⟩
          have hAt := rat_at g ltn (.slice OA ol ocap) r2 w3 (by rw [Hol.out]; omega) a7 HR3.out.out.rowN HN2.out
          rw [hob] at hAt
          have HAt := hid hAt
          have Hob := hid (show i.early r2 = ob by rw [HE.out r2]; exact hob)
          have HI2 := hid (show I = flowStep ob i r2 by rw [Hun.out, if_neg hc, Hr2.out, Hob.out])
          clear hAt hob hc Hun Hcb2
          cases ob with
          | none =>
            go_wp2_with (first | (go_at_call 75; refine HAt.out.mono ?_; rintro e w' ⟨rfl, rfl⟩) | fail)
            refine end_ret rfl rfl ?_
            unfold RNotePost
            rw [HI.out, show I = i from HI2.out, Hidn.out, if_neg (by simp)]
            refine ⟨⟨_, rfl⟩, F2, ⟨own, owe, gv, ltn, .slice IA il icap, .slice OA ol ocap, vs, ?_, fun _ => HE.out, fun e => ?_, fun _ => H2.out.owe (by rw [Hs2.out]; decide), H2.out.gv, ?_, HN2.out⟩, HFr3.out, fun z hz => ?_⟩
            · have h := HR3.out
              unfold rcCells at h ⊢
              simp only [Hs2.out] at h
              exact h
            · exact absurd (show (2 : Int) = 1 from e) (by decide)
            · rw [Hol.out, Hdl.out]; exact Hlnq.out
            · rcases HF2.out z hz with r1 | r1
              · exact .inl r1
              · exact .inr (by omega)
          | some b =>
            have HI3 := hid (show tFlowN i.q { i with early := fun x => if x = r2 then none else i.early x, ready := i.ready ++ [b], r := (r2 + 1) % 4294967296 } = I from HI2.out.symm)
            have Htk := hid (InOk.take Hiok.out (b := b) (by rw [Hr2.out]; exact Hob.out))
            rw [Hr2.out] at Htk
            clear HI2 HI
            go_upto_region 22 with (first | (go_at_call 75; refine HAt.out.mono ?_; rintro e w4 ⟨rfl, rfl⟩) | fail)
            clear HAt
            obtain ⟨hoc1, hoc2⟩ : ol ≤ ocap ∧ ocap ≤ 9223372036854775807 := by
              obtain ⟨_, _, _, hv, h1, h2, _⟩ := HR3.out.out.rowN
              injection hv with _ e2 e3
              have := Hol.out
              simp only [maxLen] at h2
              omega
            obtain ⟨hic1, hic2⟩ : il ≤ icap ∧ icap ≤ 9223372036854775807 := by
              obtain ⟨_, _, _, hv, h1, h2, _⟩ := HR3.out.inn.rowN
              injection hv with _ e2 e3
              have := Hil.out
              simp only [maxLen] at h2
              omega
            have HRO := hid (show RowN w4 2 (.slice OA ol ocap) ol (ltRow ltn) by have := HR3.out.out.rowN; rw [Hol.out] at this; exact this)
            go_upto_region 23 with fail
            go_loopg [12, 13] ol (fun gk s12 s13 wx => ∃ kk : Nat, kk ≤ ol ∧ ol - kk ≤ gk ∧ s13 = .int .i64 (kk : Int) ∧ Below w4.heap.size w4 wx ∧ RowAtS wx w4.heap.size 122 2 s12 (ltDrop (ltn.take kk) r2).length (ltRow (ltDrop (ltn.take kk) r2)))
            case atStart => exact ⟨0, Nat.zero_le _, by omega, rfl, Below.refl _ _, RowAtS.nil _ _ _ _⟩
            case round =>
              obtain ⟨kk, hkk, hgk3, rfl, hbel, hrw⟩ := hrel
              have d7 := cell_below hbel a7
              have d3 := cell_below hbel a3
              by_cases hkl : kk < ol
              · have hkI : (kk : Int) < (ol : Int) := by omega
                obtain ⟨gB, oB, rfl, e0, e1⟩ := lt_cells (HRO.out.keep (fun p u hp => cell_below hbel hp)) Hol.out kk hkl
                have hsn := ltDrop_snoc ltn r2 kk (by rw [Hol.out]; exact hkl)
                generalize ltn[kk]'(by rw [Hol.out]; exact hkl) = x at e0 e1 hsn
                obtain ⟨xn, xb⟩ := x
                simp only at e0 e1 hsn
                unfold u8v at e1
                obtain ⟨rl3, hrl3⟩ : ∃ z, ltDrop (ltn.take kk) r2 = z := ⟨_, rfl⟩
                have hrll : rl3.length ≤ 1100000 := by rw [← hrl3]; have := ltDrop_len (ltn.take kk) r2; simp at this; omega
                rw [hrl3] at hrw hsn
                obtain ⟨_, D, capD, rfl, hcD1, hcD2, _⟩ := hrw.rowN
                have hj1 : IntKind.i64.wrap ((kk : Int) + 1) = ((kk + 1 : Nat) : Int) := by rw [IntWalk.i64_in _ (by omega)]; omega
                have Hrw := hid hrw
                have Hbel := hid hbel
                clear hrw hbel hrl3 hcD2
                by_cases hxe : xn = r2
                · have Hs2 := hid (show ltDrop (ltn.take (kk + 1)) r2 = rl3 by rw [hsn, if_pos hxe, List.append_nil])
                  have hxb : ((xn : Int) != (r2 : Int)) = false := by simp [hxe]
                  clear hsn hxe
                  go_upto_region 25 with fail
                  go_quiet (fail)
                  go_wp2_with fail
                  go_roundg (ol - (kk + 1))
                  case measure => omega
                  case rel => exact ⟨kk + 1, by omega, Nat.le_refl _, rfl, below_drewN Hbel.out _, by rw [Hs2.out]; exact Hrw.out.keep (below_drewN (Below.refl _ _) _)⟩
                · have Hs2 := hid (show ltDrop (ltn.take (kk + 1)) r2 = rl3 ++ [(xn, xb)] by rw [hsn, if_neg hxe])
                  have hxb : ((xn : Int) != (r2 : Int)) = true := by simp only [bne_iff_ne, ne_eq]; omega
                  clear hsn hxe
                  go_upto_region 25 with fail
                  go_quiet (fail)
                  have Hb4 := hid (below_drewN Hbel.out nq)
                  have Hrw4 := hid (Hrw.out.keep (below_drewN (Below.refl _ _) nq))
                  have d7 := cell_below (below_drewN (Below.refl _ _) nq) d7
                  have d3 := cell_below (below_drewN (Below.refl _ _) nq) d3
                  have e0 := cell_below (below_drewN (Below.refl _ _) nq) e0
                  have e1 := cell_below (below_drewN (Below.refl _ _) nq) e1
                  clear Hrw Hbel
                  generalize World.drewN _ nq = w5 at *
                  have hal := below_alloc w5 (.cells #[.int .u32 (xn : Int), .int .u8 (xb.toNat : Int)] 122)
                  have Hal := hid hal
                  have Hrw5 := hid (Hrw4.out.keep hal)
                  have hwsz := Hb4.out.size
                  clear hal
                  go_wp2_with (first
                    | ((with_reducible show wpList _ _ _ (Oper.mk (some 178) _ _ _ _ _ :: _) _ _); refine wpList_app_atS rfl _ _ 56 rfl w4.heap.size 122 (.agg #[.int .u32 0, .int .u8 0]) 2 8 laterok _ rl3.length (ltRow rl3) rfl Hrw5.out (.slice (some ⟨w5.heap.size, 0, none⟩) 1 1) 1 [.int .u32 (xn : Int), .int .u8 (xb.toNat : Int)] rfl (rowS_lit 2 #[.int .u32 (xn : Int), .int .u8 (xb.toNat : Int)] 1 _ rfl rfl (by simp [maxLen])) (by simp [Value.oneCell']) (by decide) (by omega) (by simp only [maxLen]; omega) (by simp; omega) ?_; intro v6 w6 hr6 hg6 hv6; have hb6 : Below w4.heap.size w4 w6 := Below.grown (Hb4.out.trans (Hal.out.mono Hb4.out.size)) hg6 (Nat.le_trans Hb4.out.size Hal.out.size) (fun k hk => (Hrw5.out.lt hk).1); have Hr6 := hid hr6; have Hb6 := hid hb6; clear hr6 hg6 hv6 hb6)
                    | fail)
                  go_roundg (ol - (kk + 1))
                  case measure => omega
                  case rel => exact ⟨kk + 1, by omega, Nat.le_refl _, rfl, Hb6.out, by rw [Hs2.out, List.length_append, ltRow_snoc]; exact Hr6.out⟩
              · obtain rfl : kk = ol := by omega
                have hkI : ¬ (kk : Int) < (kk : Int) := by omega
                rw [List.take_of_length_le (by rw [Hol.out]; exact Nat.le_refl _)] at hrw
                obtain ⟨rn3, hrn3⟩ : ∃ z, (ltDrop ltn r2).length = z := ⟨_, rfl⟩
                rw [hrn3] at hrw
                obtain ⟨_, D, capD, rfl, hcD1, hcD2, _⟩ := hrw.rowN
                have hrl4 : rn3 ≤ kk := by rw [← hrn3, ← Hol.out]; exact ltDrop_len _ _
                have HR4 := HR3.out.keep hbel
                have hlow := HR3.out.base_le
                have hsw := HR4.swapOut (v6 := .slice D rn3 capD) (lt' := ltDrop ltn r2) (by rw [hrn3]; exact hrw.mono hlow) (grown_refl wr _)
                have HR5 := hid hsw.1
                have HF5 := hid hsw.2
                have Hbel := hid hbel
                have Hrw := hid hrw
                have z7' := HR4.tab.frozen 7
                have d6 := cell_below hbel a6
                have Hrn3 := hid hrn3
                clear hsw HR4 hrw hbel hrn3 hcD2 z7 z6 z3 z2
                go_upto_region 28 with fail
                generalize wr.setCell ⟨g, 7, none⟩ (.slice D rn3 capD) = w5 at *
                clear d6 d7 d3 z7' a2 a3 a6 a7
                have a6 : w5.cell? ⟨g, 6, none⟩ = some (.slice IA il icap) := HR5.out.tab.cell 6
                have hLB := below_alloc w5 (.cells #[.int .u8 (b.toNat : Int)] 5)
                have HLB := hid hLB
                have HR6 := hid (HR5.out.keep hLB)
                have hin := HR6.out.inn
                rw [Hil.out] at hin
                have Hin := hid hin
                have a6b := cell_below hLB a6
                have hbase := HR6.out.base_le
                have Hbase := hid hbase
                have hil2 : il + 1 ≤ 16384 := by have h := Htk.out.1.len; simp only [List.length_append, List.length_singleton] at h; rw [Hil.out] at h; exact h
                clear hLB hin hbase
                go_upto_region 29 with (first
                  | ((with_reducible show wpList _ _ _ (Oper.mk (some 190) _ _ _ _ _ :: _) _ _); refine wpList_app_atS rfl _ _ 28 rfl base 5 (.int .u8 0) 1 1 u8ok (.slice IA il icap) il (i.ready.map u8v) rfl Hin.out (.slice (some ⟨w5.heap.size, 0, none⟩) 1 1) 1 [.int .u8 (b.toNat : Int)] rfl (rowS_lit 1 #[.int .u8 (b.toNat : Int)] 1 _ rfl rfl (by simp [maxLen])) (by simp [Value.oneCell']) (by decide) (by omega) (by simp only [maxLen]; omega) Hbase.out ?_; intro v6 w6 hr6 hg6 hv6; obtain ⟨A6, cap6, rfl⟩ : ∃ A c, v6 = .slice A (il + 1) c := (by obtain ⟨_, A, c, h, _⟩ := hr6.rowN; exact ⟨A, c, h⟩); have Hap := hid (show ∀ z, (Value.slice A6 (il + 1) cap6).ownBlock = some z → vs.ownBlock ≠ some z from fun z hz e => (by rcases hv6 with q0 | q0; exact HR5.out.ap z (by rw [← q0]; exact hz) e; rw [q0] at hz; injection hz with hz; have h9 := (HR5.out.snt.lt e).2; have h8 := HLB.out.size; omega)); have Hsw := hid (HR6.out.swapIn (i' := i.ready ++ [b]) (v6 := .slice A6 (il + 1) cap6) (by rw [List.length_append, Hil.out, List.map_append]; exact hr6) hg6 Hap.out); have Hv6 := hid (show ∀ z, (Value.slice A6 (il + 1) cap6).ownBlock = some z → F2 z ∨ w5.heap.size ≤ z from fun z hz => (by rcases hv6 with q0 | q0; exact (HR3.out.fi z (by rw [← q0]; exact hz)) |> Or.inl; rw [q0] at hz; injection hz with hz; have h8 := HLB.out.size; exact .inr (by omega))); have htab := HR6.out.tab.grown hg6 (fun e => HR6.out.inn.ne HR6.out.tab (by decide) e.symm); have e6 : w6.cell? ⟨g, 6, none⟩ = some (.slice IA il icap) := htab.cell 6; have y6 := htab.frozen 6; clear hr6 hg6 hv6 htab)
                  | fail)
                have hw5 : w4.heap.size ≤ w5.heap.size := Nat.le_trans Hbel.out.size HF5.out.size
                have hww : w.heap.size ≤ w4.heap.size := HFr3.out.size
                have hFF : ∀ z, (F2 z ∨ (Value.slice D rn3 capD).ownBlock = some z) ∨ (Value.slice A6 (il + 1) cap6).ownBlock = some z → F z ∨ w.heap.size ≤ z := fun z hz => by
                  rcases hz with (hz | hz) | hz
                  · exact HF2.out z hz
                  · exact .inr (Nat.le_trans hww (Hrw.out.lt hz).1)
                  · rcases Hv6.out z hz with r1 | r1
                    · exact HF2.out z r1
                    · exact .inr (by omega)
                have hFs : ∀ z, z < w.heap.size → ((F2 z ∨ (Value.slice D rn3 capD).ownBlock = some z) ∨ (Value.slice A6 (il + 1) cap6).ownBlock = some z) → F z := fun z hz h => by
                  rcases hFF z h with r1 | r1
                  · exact r1
                  · omega
                have HF6 := hid ((((HFr3.out.trans (Below.frameF Hbel.out F) (fun _ _ h => h)).trans HF5.out (fun z hz h => hFs z hz (.inl (.inl h)))).trans (Below.frameF HLB.out F) (fun _ _ h => h)).trans Hsw.out.2 (fun z hz h => hFs z hz (.inl h)))
                generalize w6.setCell ⟨g, 6, none⟩ (.slice A6 (il + 1) cap6) = w7 at *
                have a3 : w7.cell? ⟨g, 3, none⟩ = some (.int .u32 (r2 : Int)) := by rw [← Hr2.out]; exact Hsw.out.1.tab.cell 3
                have z3 := Hsw.out.1.tab.frozen 3
                have HRL := hid (Hsw.out.1.set1 3 (.int .u32 (rn : Int)))
                have HFL := hid (HF6.out.trans (Hsw.out.1.fset 3 (.int .u32 (rn : Int))) hFs)
                have HFF := hid hFF
                clear hFF hFs hw5 hww e6 y6
                go_wp2_with fail
                go_roundg (i.q)
                case measure => omega
                case rel =>
                  have ht := Htk.out
                  have hrn : (r2 + 1) % 4294967296 = rn := by rw [← Hrn.out, Hr2.out]
                  have hq := ht.2
                  refine ⟨_, ltDrop ltn r2, .slice A6 (il + 1) cap6, .slice D rn3 capD, _, Nat.le_of_eq hq.symm, ?_, ht.1, Hidn.out, hid (fun k => ?_), ?_, hid (fun x hx => HN2.out x (List.mem_filter.1 hx).1), ?_, HFL.out, HFF⟩
                  · have h := HI3.out
                    rw [hq] at h
                    exact hid h
                  · show (if k = r2 then none else i.early k) = _
                    unfold ltDrop
                    rw [ltFind_drop]
                    split
                    · rfl
                    · exact HE.out k
                  · have := ltDrop_len ltn r2
                    rw [Hol.out] at this
                    exact Nat.le_trans this Hlnq.out
                  · simp only [hrn]
                    exact HRL.out
end Go.Proofs.Ytahlcjkcdgahkaa
