/- Take: what is taken. -/
import Derived.Test.YtahlcjkcdgahkaaTcpJ
import Derived.Deep.CutBlock
namespace Go.Proofs.Ytahlcjkcdgahkaa
open Go Go.RowKit
attribute [local go_sem ↓] Go.wp_at_zero Go.wp_at_succ
set_option maxRecDepth 100000

/-- behind the flow: the connection may have new blocks -/
structure TakeEnd (base g m : Nat) (F : Nat → Prop) (w0 : World) (box : List Value) (F' : Nat → Prop) (c : TConn) (wr : World) : Prop where
  inv : ConnInv wr base g c m F'
  box : Blk wr w0.heap.size 30 box
  fr : Frame F w0 wr
  new : ∀ k, F' k → F k ∨ w0.heap.size < k
  flt : ∀ k, F k → k < w0.heap.size
section
variable {base g m m' : Nat} {F F' : Nat → Prop} {w0 : World} {box : List Value} {v : Value} {data : List UInt8} {c c' : TConn} {wr w' : World}
theorem TakeAt.end_ (h : TakeAt base g m F w0 box v data c wr) (k : ConnTo base g c' m' F wr w') : ∃ F', TakeEnd base g m' F w0 box F' c' w' := by
  obtain ⟨F', h1, h2, h3⟩ := k
  exact ⟨F', h1, h2.blk h.box (fun q => Nat.lt_irrefl _ (h.flt _ q)), h.fr.trans h2 (fun _ _ h => h), fun i hi => (h3 i hi).imp id (fun q => Nat.lt_of_lt_of_le h.box.lt q), h.flt⟩
theorem TakeEnd.post (h : TakeEnd base g m F w0 box F' c wr) (u : Value) : TakePost base g c m F w0 (.returned u) wr :=
  ⟨⟨u, rfl⟩, F', h.inv, h.fr, fun k hk => (h.new k hk).imp id (fun q => by omega)⟩
theorem TakeEnd.drewN (h : TakeEnd base g m F w0 box F' c wr) (q : Nat) : TakeEnd base g m F w0 box F' c (wr.drewN q) :=
  ⟨h.inv.keep (below_drewN (Below.refl _ _) q), h.box.keep (below_drewN (Below.refl _ _) q), h.fr.trans (Below.frameF (below_drewN (Below.refl wr.heap.size wr) q) F) (fun _ _ h => h), h.new, h.flt⟩
/-- one cell is stored -/
theorem TakeEnd.set1 (h : TakeEnd base g m F w0 box F' c wr) (i : Nat) (u : Value) (ht : ∀ vr gM vb, (c.cells vr (.map (some gM)) vb).set i u = c'.cells vr (.map (some gM)) vb) (h1 : c'.inn.ready = c.inn.ready) (h2 : c'.inn.early = c.inn.early) (h3 : c'.out.bytes = c.out.bytes) :
    TakeEnd base g m F w0 box F' c' (wr.setCell ⟨g, i, none⟩ u) := by
  obtain ⟨vr, gM, vb, f, hi⟩ := h.inv
  have hg := grown_set wr g i u
  have hf : Frame F' wr (wr.setCell ⟨g, i, none⟩ u) := Frame.one hg hi.fg
  refine ⟨⟨vr, gM, vb, f, hi.stored hg (by rw [← ht]; exact hi.tab.set_ i u) h1 h2 h3⟩, hf.blk h.box (fun q => ?_), h.fr.step hf (fun k hk => (h.new k hk).imp id (fun q => by omega)), h.new, h.flt⟩
  rcases h.new _ q with q | q
  · exact Nat.lt_irrefl _ (h.flt _ q)
  · exact Nat.lt_irrefl _ q
end
set_option maxHeartbeats 8000000 in
theorem take_late (base g : Nat) (c : TConn) (m : Nat) (F : Nat → Prop) (s : TSeg) (A : Option Addr) (n cap : Nat) (w : World) (h : ConnInv w base g c m F) (hs : s.seq < 4294967296) (ha : s.ack < 4294967296) (hi : InOk c.inn) (ho : OutOk c) (hd : Bs w (.slice A n cap) s.data) (hn : n ≤ 100000) (hm : m ≤ 1000000000) (hf : n = 0 ∨ ∀ k, (Value.slice A n cap).ownBlock = some k → ¬ F k) (he : ¬ tEarly c s) :
    Calls Try.prog 16 #[.pointer (some ⟨g, 0, none⟩), s.val (.slice A n cap)] w (TakePost base g (tTake c s) (m + s.data.length) F w) := by
  have T0 := TakeAt.new h s (.slice A n cap) hd (by rw [hd.open.1]; exact hf)
  obtain ⟨st, hst⟩ : ∃ st, c.state = st := ⟨_, rfl⟩
  obtain ⟨s0, d0, sq, ak, fl, wi, ms, data⟩ := s
  dsimp only [TSeg.val, TSeg.cells] at T0 ⊢
  simp only at hs ha
  have HT := hid T0
  obtain ⟨vr, gM, vb, f, hi0⟩ := T0.inv
  have c18 : (w.alloc (.cells #[.int .i64 s0, .int .i64 d0, .int .u32 (sq : Int), .int .u32 (ak : Int), .int .i64 fl, .int .i64 wi, .int .i64 ms, .slice A n cap] 30)).cell? ⟨g, 18, none⟩ = some (.int .i64 st) := by rw [← hst]; exact hi0.tab.cell 18
  have c7 : (w.alloc (.cells #[.int .i64 s0, .int .i64 d0, .int .u32 (sq : Int), .int .u32 (ak : Int), .int .i64 fl, .int .i64 wi, .int .i64 ms, .slice A n cap] 30)).cell? ⟨g, 7, none⟩ = some (.int .u32 (c.out.n : Int)) := hi0.tab.cell 7
  have b4 : (w.alloc (.cells #[.int .i64 s0, .int .i64 d0, .int .u32 (sq : Int), .int .u32 (ak : Int), .int .i64 fl, .int .i64 wi, .int .i64 ms, .slice A n cap] 30)).cell? ⟨w.heap.size, 4, none⟩ = some (.int .i64 fl) := T0.box.cell 4
  have b3 : (w.alloc (.cells #[.int .i64 s0, .int .i64 d0, .int .u32 (sq : Int), .int .u32 (ak : Int), .int .i64 fl, .int .i64 wi, .int .i64 ms, .slice A n cap] 30)).cell? ⟨w.heap.size, 3, none⟩ = some (.int .u32 (ak : Int)) := T0.box.cell 3
  have z18 := hi0.tab.frozen 18
  have Hst := hid hst
  have Hi := hid hi
  have Ho := hid ho
  have hcn := ho.n
  unfold tEarly at he
  simp only [not_or] at he
  obtain ⟨e5, e4, e2, e16, eL, e1⟩ := he
  have h5b : (st == 5) = false := by rw [← hst]; simpa using e5
  have hf4 : (bits .and .i64 fl 4 != 0) = false := Bool.eq_false_iff.2 e4
  have hf2 : (bits .and .i64 fl 2 != 0) = false := Bool.eq_false_iff.2 e2
  have hf16 : (bits .and .i64 fl 16 == 0) = false := by have : (bits .and .i64 fl 16 != 0) = true := by simpa [tBit] using e16
                                                        rw [neq_of _ this]; rfl
  have hln : tLess c.out.n ak = false := Bool.eq_false_iff.2 eL
  have HL := hid (fun q => less_any c.out.n ak hcn ha ((w.alloc (.cells #[.int .i64 s0, .int .i64 d0, .int .u32 (sq : Int), .int .u32 (ak : Int), .int .i64 fl, .int .i64 wi, .int .i64 ms, .slice A n cap] 30)).drewN q))
  rw [hln] at HL
  obtain ⟨c1, hc1⟩ : ∃ c1, ({ c with state := if c.state = 1 then 2 else c.state } : TConn) = c1 := ⟨_, rfl⟩
  have Hr := hid (show tTake c ⟨s0, d0, sq, ak, fl, wi, ms, data⟩ = tTakeA c1 ⟨s0, d0, sq, ak, fl, wi, ms, data⟩ by
    rw [← hc1]
    unfold tTake
    rw [if_neg e5, if_neg e4, if_neg e2, if_neg e16, if_neg eL, if_neg e1])
  have Hc1 := hid hc1
  clear hc1
  have E1 := hid e1
  have Hdl := hid (show data.length = n from hd.open.1)
  clear h hd hi0 T0 hst hi ho e5 e4 e2 e16 eL e1 hln
  go_enter Try.func16, Try.ntmps16
  go_wp2_with fail
  go_quiet ((go_at_call 20; exact Calls.quiet_of_same (HL.out _)))
  go_wp2_with fail
  go_cut [79] from 79 to 95 (fun s wx => s = .bool false ∧ ∃ q, wx = (w.alloc (.cells #[.int .i64 s0, .int .i64 d0, .int .u32 (sq : Int), .int .u32 (ak : Int), .int .i64 fl, .int .i64 wi, .int .i64 ms, .slice A n cap] 30)).drewN q)
  case first =>
    have hcc : (c.state = st) := Hst.out
    by_cases h1 : st = 1
    · have hnb : ((ak : Int) != (c.out.n : Int)) = false := by have := E1.out; simp only [hcc, h1, true_and, ne_eq, Decidable.not_not] at this; simp; omega
      clear hcc
      subst h1
      go_quiet (fail)
      go_wp2_with fail
      go_meet
      case rel => exact ⟨rfl, _, by rw [World.drewN_drewN]⟩
    · have hb1 : (st == 1) = false := by simpa using h1
      clear hcc h1
      go_quiet (fail)
      go_wp2_with fail
      go_meet
      case rel => exact ⟨rfl, _, by rw [World.drewN_drewN]⟩
  case rest =>
  obtain ⟨rfl, q0, rfl⟩ := hcut
  have HTd := hid (HT.out.drewN q0)
  have c18d : ((w.alloc (.cells #[.int .i64 s0, .int .i64 d0, .int .u32 (sq : Int), .int .u32 (ak : Int), .int .i64 fl, .int .i64 wi, .int .i64 ms, .slice A n cap] 30)).drewN q0).cell? ⟨g, 18, none⟩ = some (.int .i64 st) := c18
  have z18d : ((w.alloc (.cells #[.int .i64 s0, .int .i64 d0, .int .u32 (sq : Int), .int .u32 (ak : Int), .int .i64 fl, .int .i64 wi, .int .i64 ms, .slice A n cap] 30)).drewN q0).frozen? ⟨g, 18, none⟩ = false := z18
  clear HT c18 c7 b4 b3 z18
  generalize (w.alloc (.cells #[.int .i64 s0, .int .i64 d0, .int .u32 (sq : Int), .int .u32 (ak : Int), .int .i64 fl, .int .i64 wi, .int .i64 ms, .slice A n cap] 30)).drewN q0 = wd at *
  go_step
  go_upto_if 99 with (fail)
  go_cut [] from 95 to 103 (fun wx => TakeAt base g m F w #[.int .i64 s0, .int .i64 d0, .int .u32 (sq : Int), .int .u32 (ak : Int), .int .i64 fl, .int .i64 wi, .int .i64 ms, .slice A n cap].toList (.slice A n cap) data c1 wx)
  case first =>
    by_cases h1 : st = 1
    · subst h1
      go_wp2_with fail
      go_meet
      case rel =>
        have e := Hc1.out
        rw [if_pos Hst.out] at e
        rw [← e]
        exact HTd.out.set1 18 (.int .i64 2) (c' := { c with state := 2 }) (fun _ _ _ => rfl) rfl rfl rfl
    · have hb1 : (st == 1) = false := by simpa using h1
      have H1 := hid h1
      clear h1
      go_wp2_with fail
      go_meet
      case rel =>
        have e := Hc1.out
        rw [if_neg (by rw [Hst.out]; exact H1.out)] at e
        rw [← e]
        exact HTd.out
  case rest =>
  have ST1 : c1.out = c.out ∧ c1.inn = c.inn ∧ c1.again = c.again := by rw [← Hc1.out]; exact ⟨rfl, rfl, rfl⟩
  have HS1 := hid ST1
  have HT1 := hid hcut
  have hou := Ho.out.u
  rw [← ST1.1] at hou
  have hob := Ho.out.base
  rw [← ST1.1] at hob
  have hol := Ho.out.len
  rw [← ST1.1] at hol
  clear ST1 hcut hf4 hf2 hf16 h5b HL hcn HTd c18d z18d
  generalize wc = w1 at *
  obtain ⟨vr, gM, vb, f, hi0⟩ := HT1.out.inv
  obtain ⟨st1, hst1⟩ : ∃ st, c1.state = st := ⟨_, rfl⟩
  have c18 : w1.cell? ⟨g, 18, none⟩ = some (.int .i64 st1) := by rw [← hst1]; exact hi0.tab.cell 18
  have c6 : w1.cell? ⟨g, 6, none⟩ = some (.int .u32 (c1.out.u : Int)) := hi0.tab.cell 6
  have b3 : w1.cell? ⟨w.heap.size, 3, none⟩ = some (.int .u32 (ak : Int)) := HT1.out.box.cell 3
  have Hst1 := hid hst1
  clear hi0 hst1
  obtain ⟨lu, hlu⟩ : ∃ b, tLess c1.out.u ak = b := ⟨_, rfl⟩
  have HL := hid (fun q => less_any c1.out.u ak hou ha (w1.drewN q))
  rw [hlu] at HL
  have Hlu := hid hlu
  clear hlu
  go_step
  go_wp2_with fail
  go_quiet ((go_at_call 20; exact Calls.quiet_of_same (HL.out _)))
  go_upto_if 110 with (fail)
  have HT2 := hid (HT1.out.drewN nq)
  clear c18 c6 b3 HT1 HL
  generalize w1.drewN nq = w2 at *
  obtain ⟨c2, hc2⟩ : ∃ c2, (if tLess c1.out.u ak = true then { c1 with out := tAnswered c1.out ak, again := false } else c1) = c2 := ⟨_, rfl⟩
  have Hc2 := hid hc2
  clear hc2
  go_cut [] from 111 to 144 (fun wx => TakeAt base g m F w #[.int .i64 s0, .int .i64 d0, .int .u32 (sq : Int), .int .u32 (ak : Int), .int .i64 fl, .int .i64 wi, .int .i64 ms, .slice A n cap].toList (.slice A n cap) data c2 wx ∧ Hid (tTakeA c1 ⟨s0, d0, sq, ak, fl, wi, ms, data⟩ = tTakeB c2 ⟨s0, d0, sq, ak, fl, wi, ms, data⟩))
  case first =>
    cases lu with
    | true =>
      have b3 : w2.cell? ⟨w.heap.size, 3, none⟩ = some (.int .u32 (ak : Int)) := HT2.out.box.cell 3
      have HA := hid (fun wx (hx : ConnInv wx base g c1 m F) => answered_any base g c1 m F ak ha hob (Nat.le_trans hol (by decide)) wx hx)
      go_wp2_with fail
      go_region_held3 (fun wy => wy.cell? ⟨w.heap.size, 3, none⟩ = some (.int .u32 (ak : Int))) (first | exact b3 | exact cell_below (below_drew _) b3 | exact HS3.out) (first
        | (go_at_call 38; (with_reducible refine (HA.out _ (by first | exact HT2.out.inv | exact HT2.out.inv.keep (below_drew _))).mono ?_); rintro e w3 ⟨⟨u, rfl⟩, hi3, hf3, hz3⟩; have HT3 := hid (HT2.out.step hi3 (by first | exact hf3 | exact (Below.frameF (below_drew w2) F).trans hf3 (fun _ _ h => h))); have HS3 := hid (show w3.cell? ⟨w.heap.size, 3, none⟩ = some (.int .u32 (ak : Int)) from HT3.out.box.cell 3); clear hi3 hf3 hz3)
        | fail)
      obtain ⟨vr, gM, vb, f, hi3⟩ := HT3.out.inv
      have d21 : w3.cell? ⟨g, 21, none⟩ = some (.bool c1.again) := hi3.tab.cell 21
      have z21 := hi3.tab.frozen 21
      clear hi3
      go_upto_region 18 with (fail)
      have HT4 := hid (HT3.out.set1 21 (.bool false) (c' := c2) (fun _ _ _ => by rw [← Hc2.out, if_pos Hlu.out]; rfl) (by rw [← Hc2.out, if_pos Hlu.out]) (by rw [← Hc2.out, if_pos Hlu.out]) (by rw [← Hc2.out, if_pos Hlu.out]))
      clear HT3 HS3 d21 z21 HT2 HA b3
      generalize w3.setCell ⟨g, 21, none⟩ (.bool false) = w4 at *
      obtain ⟨vr, gM, vb, f, hi4⟩ := HT4.out.inv
      have e2 := Hc2.out
      rw [if_pos Hlu.out] at e2
      have d18 : w4.cell? ⟨g, 18, none⟩ = some (.int .i64 st1) := by rw [hi4.tab.cell 18, ← e2]; show some (Value.int .i64 c1.state) = _; rw [Hst1.out]
      have d6 : w4.cell? ⟨g, 6, none⟩ = some (.int .u32 (ak : Int)) := by rw [hi4.tab.cell 6, ← e2]; rfl
      have d7 : w4.cell? ⟨g, 7, none⟩ = some (.int .u32 (c1.out.n : Int)) := by rw [hi4.tab.cell 7, ← e2]; rfl
      have d23 : w4.cell? ⟨g, 23, none⟩ = some (.bool c2.off) := hi4.tab.cell 23
      have z18 := hi4.tab.frozen 18
      have z23 := hi4.tab.frozen 23
      have He2 := hid e2
      clear hi4 e2
      by_cases h4 : st1 = 4
      · by_cases hn4 : ak = c1.out.n
        · have Hn4 := hid hn4
          rw [← hn4] at d7
          clear hn4
          have H4 := hid h4
          subst h4
          go_quiet (fail)
          go_wp2_with fail
          go_end0
          have e : tTakeA c1 ⟨s0, d0, sq, ak, fl, wi, ms, data⟩ = { c2 with state := 5, off := true } := by
            unfold tTakeA
            rw [if_pos Hlu.out, if_pos ⟨Hst1.out, Hn4.out⟩, ← He2.out]
          rw [Hr.out, e]
          exact (((HT4.out.drewN nq).set1 18 (.int .i64 5) (c' := { c2 with state := 5 }) (fun _ _ _ => rfl) rfl rfl rfl).set1 23 (.bool true) (c' := { c2 with state := 5, off := true }) (fun _ _ _ => rfl) rfl rfl rfl).post (by simp) _
        · have hnb : ((ak : Int) == (c1.out.n : Int)) = false := by simp; omega
          have H4 := hid h4
          have Hn4 := hid hn4
          subst h4
          go_quiet (fail)
          go_wp2_with fail
          go_meet
          case rel =>
            refine ⟨HT4.out.drewN nq, hid ?_⟩
            unfold tTakeA
            rw [if_pos Hlu.out, if_neg (fun h => Hn4.out h.2), He2.out]
      · have hb4 : (st1 == 4) = false := by simpa using h4
        have H4 := hid h4
        clear h4
        go_quiet (fail)
        go_wp2_with fail
        go_meet
        case rel =>
          refine ⟨HT4.out.drewN nq, hid ?_⟩
          unfold tTakeA
          rw [if_pos Hlu.out, if_neg (fun h => H4.out (by rw [← Hst1.out]; exact h.1)), He2.out]
    | false =>
      go_wp2_with fail
      go_meet
      case rel =>
        have e := Hc2.out
        rw [if_neg (by rw [Hlu.out]; simp)] at e
        refine ⟨by rw [← e]; exact HT2.out, hid ?_⟩
        unfold tTakeA
        rw [if_neg (by rw [Hlu.out]; simp), e]
  case rest =>
  have Hk := hcut.2
  have HT5 := hid hcut.1
  have Hr5 := hid (Hr.out.trans Hk.out)
  have hin : c2.inn = c.inn := by rw [← Hc2.out]; split <;> rw [← HS1.out.2.1]
  have Hin := hid hin
  have hu2 : c2.out.u < 4294967296 := by
    rw [← Hc2.out]
    split
    · exact ha
    · exact hou
  clear hcut Hk Hc2 Hr HT2 hin hou hob hol Hlu Hst1 HS1
  generalize wc = w5 at *
  obtain ⟨vr, gM, vb, f, hi5⟩ := HT5.out.inv
  have c6 : w5.cell? ⟨g, 6, none⟩ = some (.int .u32 (c2.out.u : Int)) := hi5.tab.cell 6
  have c10 : w5.cell? ⟨g, 10, none⟩ = some (.int .i64 c2.out.w) := hi5.tab.cell 10
  have z10 := hi5.tab.frozen 10
  have b3 : w5.cell? ⟨w.heap.size, 3, none⟩ = some (.int .u32 (ak : Int)) := HT5.out.box.cell 3
  have b5 : w5.cell? ⟨w.heap.size, 5, none⟩ = some (.int .i64 wi) := HT5.out.box.cell 5
  clear hi5
  obtain ⟨lw, hlw⟩ : ∃ b, tLess ak c2.out.u = b := ⟨_, rfl⟩
  have HL := hid (fun q => less_any ak c2.out.u ha hu2 (w5.drewN q))
  rw [hlw] at HL
  obtain ⟨c3, hc3⟩ : ∃ c3, ({ c2 with out := if tLess ak c2.out.u = true then c2.out else { c2.out with w := wi } } : TConn) = c3 := ⟨_, rfl⟩
  have Hlw := hid hlw
  have Hc3 := hid hc3
  clear hlw hc3
  go_step
  go_wp2_with fail
  go_quiet ((go_at_call 20; exact Calls.quiet_of_same (HL.out _)))
  go_upto_if 152 with (fail)
  go_cut [] from 152 to 158 (fun wx => TakeAt base g m F w #[.int .i64 s0, .int .i64 d0, .int .u32 (sq : Int), .int .u32 (ak : Int), .int .i64 fl, .int .i64 wi, .int .i64 ms, .slice A n cap].toList (.slice A n cap) data c3 wx)
  case first =>
    have e := Hc3.out
    rw [Hlw.out] at e
    have He := hid e
    clear e
    cases lw with
    | true =>
      go_wp2_with fail
      go_meet
      case rel =>
        have e : c2 = c3 := He.out
        rw [← e]
        exact HT5.out.drewN nq
    | false =>
      go_wp2_with fail
      go_meet
      case rel =>
        have e : ({ c2 with out := { c2.out with w := wi } } : TConn) = c3 := He.out
        rw [← e]
        exact (HT5.out.drewN nq).set1 10 (.int .i64 wi) (fun _ _ _ => rfl) rfl rfl rfl
  case rest =>
  have HT6 := hid hcut
  have hin3 : c3.inn = c.inn := by rw [← Hc3.out]; exact Hin.out
  have Hin3 := hid hin3
  clear hcut HT5 HL c6 c10 z10 b3 b5 hin3 hu2
  generalize wc = w6 at *
  have b0 : w6.cell? ⟨w.heap.size, 0, none⟩ = some (.int .i64 s0) := HT6.out.box.cell 0
  have b1 : w6.cell? ⟨w.heap.size, 1, none⟩ = some (.int .i64 d0) := HT6.out.box.cell 1
  have b2 : w6.cell? ⟨w.heap.size, 2, none⟩ = some (.int .u32 (sq : Int)) := HT6.out.box.cell 2
  have b3 : w6.cell? ⟨w.heap.size, 3, none⟩ = some (.int .u32 (ak : Int)) := HT6.out.box.cell 3
  have b4 : w6.cell? ⟨w.heap.size, 4, none⟩ = some (.int .i64 fl) := HT6.out.box.cell 4
  have b5 : w6.cell? ⟨w.heap.size, 5, none⟩ = some (.int .i64 wi) := HT6.out.box.cell 5
  have b6 : w6.cell? ⟨w.heap.size, 6, none⟩ = some (.int .i64 ms) := HT6.out.box.cell 6
  have b7 : w6.cell? ⟨w.heap.size, 7, none⟩ = some (.slice A n cap) := HT6.out.box.cell 7
  have HN0 := fun wx (hx : TakeAt base g m F w #[.int .i64 s0, .int .i64 d0, .int .u32 (sq : Int), .int .u32 (ak : Int), .int .i64 fl, .int .i64 wi, .int .i64 ms, .slice A n cap].toList (.slice A n cap) data c3 wx) => note_any base g c3 m F ⟨s0, d0, sq, ak, fl, wi, ms, data⟩ A n cap wx hx.inv (by rw [Hin3.out]; exact Hi.out) hs hx.bs hn hm
  dsimp only [TSeg.val, TSeg.cells] at HN0
  have HN := hid HN0
  clear HN0
  go_step
  go_wp2_with fail
  go_region_held3 (fun wy => wy.cell? ⟨w.heap.size, 0, none⟩ = some (.int .i64 s0) ∧ wy.cell? ⟨w.heap.size, 1, none⟩ = some (.int .i64 d0) ∧ wy.cell? ⟨w.heap.size, 2, none⟩ = some (.int .u32 (sq : Int)) ∧ wy.cell? ⟨w.heap.size, 3, none⟩ = some (.int .u32 (ak : Int)) ∧ wy.cell? ⟨w.heap.size, 4, none⟩ = some (.int .i64 fl) ∧ wy.cell? ⟨w.heap.size, 5, none⟩ = some (.int .i64 wi) ∧ wy.cell? ⟨w.heap.size, 6, none⟩ = some (.int .i64 ms) ∧ wy.cell? ⟨w.heap.size, 7, none⟩ = some (.slice A n cap)) (first | exact ⟨b0, b1, b2, b3, b4, b5, b6, b7⟩ | exact ⟨cell_below (below_drew _) b0, cell_below (below_drew _) b1, cell_below (below_drew _) b2, cell_below (below_drew _) b3, cell_below (below_drew _) b4, cell_below (below_drew _) b5, cell_below (below_drew _) b6, cell_below (below_drew _) b7⟩ | exact HS7.out) (first
    | (go_at_call 39; (with_reducible refine (HN.out _ (by first | exact HT6.out | exact HT6.out.keep (below_drew _))).mono ?_); rintro e w7 ⟨⟨u, rfl⟩, hi7, hf7⟩; have HT7 := hid (HT6.out.step hi7 (by first | exact hf7 | exact (Below.frameF (below_drew w6) F).trans hf7 (fun _ _ h => h))); have HS7 := hid (show w7.cell? ⟨w.heap.size, 0, none⟩ = some (.int .i64 s0) ∧ w7.cell? ⟨w.heap.size, 1, none⟩ = some (.int .i64 d0) ∧ w7.cell? ⟨w.heap.size, 2, none⟩ = some (.int .u32 (sq : Int)) ∧ w7.cell? ⟨w.heap.size, 3, none⟩ = some (.int .u32 (ak : Int)) ∧ w7.cell? ⟨w.heap.size, 4, none⟩ = some (.int .i64 fl) ∧ w7.cell? ⟨w.heap.size, 5, none⟩ = some (.int .i64 wi) ∧ w7.cell? ⟨w.heap.size, 6, none⟩ = some (.int .i64 ms) ∧ w7.cell? ⟨w.heap.size, 7, none⟩ = some (.slice A n cap) from ⟨HT7.out.box.cell 0, HT7.out.box.cell 1, HT7.out.box.cell 2, HT7.out.box.cell 3, HT7.out.box.cell 4, HT7.out.box.cell 5, HT7.out.box.cell 6, HT7.out.box.cell 7⟩); clear hi7 hf7)
    | fail)
  have Hok7 := hid (show InOk (tNote c3.inn ⟨s0, d0, sq, ak, fl, wi, ms, data⟩) by rw [Hin3.out]; exact tNote_ok Hi.out _)
  have HF := hid (flow_any base g { c3 with inn := tNote c3.inn ⟨s0, d0, sq, ak, fl, wi, ms, data⟩ } (m + data.length) F w7 HT7.out.inv Hok7.out)
  obtain ⟨c5, hc5⟩ : ∃ c5, ({ c3 with inn := tFlow (tNote c3.inn ⟨s0, d0, sq, ak, fl, wi, ms, data⟩) } : TConn) = c5 := ⟨_, rfl⟩
  have Hc5 := hid hc5
  have H35 := hid (show c5.state = c2.state ∧ c5.acks = c2.acks ∧ c5.inn = tFlow (tNote c2.inn ⟨s0, d0, sq, ak, fl, wi, ms, data⟩) by rw [← hc5, ← Hc3.out]; exact ⟨rfl, rfl, rfl⟩)
  have H5 := hid (show tTakeB c2 ⟨s0, d0, sq, ak, fl, wi, ms, data⟩ = { c5 with state := if (c5.inn.done = true ∧ c5.state = 2) then 3 else c5.state, acks := c5.acks || decide (0 < n) || tBit fl 1 } by
    rw [← hc5, ← Hc3.out]
    unfold tTakeB
    simp only [Hdl.out])
  clear hc5 b0 b1 b2 b3 b4 b5 b6 b7 HS7 HT6
  go_upto_region 24 with (go_at_call 40; refine HF.out.mono ?_; rintro e w8 ⟨⟨u, rfl⟩, hto⟩; have HT8 := hid (show ∃ F', TakeEnd base g (m + data.length) F w #[.int .i64 s0, .int .i64 d0, .int .u32 (sq : Int), .int .u32 (ak : Int), .int .i64 fl, .int .i64 wi, .int .i64 ms, .slice A n cap].toList F' c5 w8 from by have e := HT7.out.end_ hto; rw [← Hc5.out]; exact e); clear hto)
  obtain ⟨F', HT8⟩ := HT8.out
  have HT8 := hid HT8
  clear HF HT7 HN Hok7
  obtain ⟨vr, gM, vb, f, hi8⟩ := HT8.out.inv
  obtain ⟨dn, hdn⟩ : ∃ b, c5.inn.done = b := ⟨_, rfl⟩
  obtain ⟨s5, hs5⟩ : ∃ b, c5.state = b := ⟨_, rfl⟩
  have d5 : w8.cell? ⟨g, 5, none⟩ = some (.bool dn) := by rw [← hdn]; exact hi8.tab.cell 5
  have d18 : w8.cell? ⟨g, 18, none⟩ = some (.int .i64 s5) := by rw [← hs5]; exact hi8.tab.cell 18
  have z18 := hi8.tab.frozen 18
  clear hi8
  obtain ⟨c6, hc6⟩ : ∃ c6, ({ c5 with state := if (c5.inn.done = true ∧ c5.state = 2) then 3 else c5.state } : TConn) = c6 := ⟨_, rfl⟩
  rw [hdn, hs5] at hc6
  have H6 := hid (show tTakeB c2 ⟨s0, d0, sq, ak, fl, wi, ms, data⟩ = { c6 with acks := c6.acks || decide (0 < n) || tBit fl 1 } by
    rw [H5.out, ← hc6, hdn, hs5])
  have Hc6 := hid hc6
  have Hs5 := hid hs5
  clear hdn hs5 hc6
  obtain ⟨t5, ht5⟩ : ∃ b, (dn && (s5 == 2)) = b := ⟨_, rfl⟩
  have Ht5 := hid ht5
  clear ht5
  go_cut [179] from 168 to 180 (fun s wx => s = .bool t5 ∧ wx = w8)
  case first =>
    have ht5 := Ht5.out
    cases dn with
    | false =>
      have e : t5 = false := by rw [← ht5]; rfl
      subst e
      clear ht5
      go_wp2_with fail
      go_meet
      case rel => exact ⟨rfl, rfl⟩
    | true =>
      have e : (s5 == 2) = t5 := by rw [← ht5]; rfl
      have He := hid e
      clear ht5 e
      go_wp2_with fail
      go_meet
      case rel => exact ⟨congrArg Value.bool He.out, rfl⟩
  case rest =>
  obtain ⟨rfl, rfl⟩ := hcut
  go_step
  go_cut [] from 168 to 183 (fun wx => TakeEnd base g (m + data.length) F w #[.int .i64 s0, .int .i64 d0, .int .u32 (sq : Int), .int .u32 (ak : Int), .int .i64 fl, .int .i64 wi, .int .i64 ms, .slice A n cap].toList F' c6 wx)
  case first =>
    cases t5 with
    | true =>
      go_wp2_with fail
      go_meet
      case rel =>
        have e := Hc6.out
        have h := Ht5.out
        simp only [Bool.and_eq_true, beq_iff_eq] at h
        rw [if_pos h] at e
        rw [← e]
        exact HT8.out.set1 18 (.int .i64 3) (fun _ _ _ => rfl) rfl rfl rfl
    | false =>
      go_wp2_with fail
      go_meet
      case rel =>
        have e := Hc6.out
        have h := Ht5.out
        rw [if_neg (by intro q; simp [q.1, q.2] at h), ← Hs5.out] at e
        rw [← e]
        exact HT8.out
  case rest =>
  have HT9 := hid hcut
  clear hcut d5 d18 z18 Ht5 Hs5 H5 H35 HT8 Hc6
  generalize wc = w9 at *
  obtain ⟨vr, gM, vb, f, hi9⟩ := HT9.out.inv
  obtain ⟨ac, hac⟩ : ∃ b, c6.acks = b := ⟨_, rfl⟩
  have d20 : w9.cell? ⟨g, 20, none⟩ = some (.bool ac) := by rw [← hac]; exact hi9.tab.cell 20
  have z20 := hi9.tab.frozen 20
  have b4 : w9.cell? ⟨w.heap.size, 4, none⟩ = some (.int .i64 fl) := HT9.out.box.cell 4
  have b7 : w9.cell? ⟨w.heap.size, 7, none⟩ = some (.slice A n cap) := HT9.out.box.cell 7
  have HE := hid (show ∀ b, (ac || decide (0 < n) || tBit fl 1) = b → TakePost base g (tTake c ⟨s0, d0, sq, ak, fl, wi, ms, data⟩) (m + data.length) F w (.returned (.tuple #[])) (w9.setCell ⟨g, 20, none⟩ (.bool b)) by
    intro b hb
    rw [Hr5.out, H6.out, hac, hb]
    exact (HT9.out.set1 20 (.bool b) (c' := { c6 with acks := b }) (fun _ _ _ => rfl) rfl rfl rfl).post _)
  clear hi9 hac HT9
  go_step
  cases ac with
  | true =>
    go_wp2_with fail
    go_end0
    exact HE.out true (by simp)
  | false =>
    by_cases hn0 : 0 < n
    · have t1 : (n : Int) > 0 := by omega
      go_wp2_with fail
      go_end0
      exact HE.out true (by simp [hn0])
    · have t1 : ¬ (n : Int) > 0 := by omega
      obtain ⟨fb, hfb⟩ : ∃ b, (bits .and .i64 fl 1 != 0) = b := ⟨_, rfl⟩
      have Hfb := hid hfb
      go_wp2_with fail
      go_end0
      exact HE.out fb (by simp [hn0]; exact Hfb.out)
theorem take_any (base g : Nat) (c : TConn) (m : Nat) (F : Nat → Prop) (s : TSeg) (A : Option Addr) (n cap : Nat) (w : World) (h : ConnInv w base g c m F) (hs : s.seq < 4294967296) (ha : s.ack < 4294967296) (hi : InOk c.inn) (ho : OutOk c) (hd : Bs w (.slice A n cap) s.data) (hn : n ≤ 100000) (hm : m ≤ 1000000000) (hf : n = 0 ∨ ∀ k, (Value.slice A n cap).ownBlock = some k → ¬ F k) :
    Calls Try.prog 16 #[.pointer (some ⟨g, 0, none⟩), s.val (.slice A n cap)] w (TakePost base g (tTake c s) (m + s.data.length) F w) := by
  by_cases he : tEarly c s
  · exact take_early base g c m F s A n cap w h hs ha ho.n hd hf he
  · exact take_late base g c m F s A n cap w h hs ha hi ho hd hn hm hf he
end Go.Proofs.Ytahlcjkcdgahkaa
