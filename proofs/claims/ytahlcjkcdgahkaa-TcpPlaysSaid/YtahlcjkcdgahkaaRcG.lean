/- The document's Take. -/
import Derived.Test.YtahlcjkcdgahkaaRcF
namespace Go.Proofs.Ytahlcjkcdgahkaa
open Go Go.RowKit
attribute [local go_sem ↓] Go.wp_at_zero Go.wp_at_succ
set_option maxRecDepth 100000
set_option linter.unusedSimpArgs false

section
variable {w w' : World} {base g : Nat} {c : TConn} {q : Nat} {F : Nat → Prop}
theorem RConn.c2 (h : RConn w base g c q F) {st : Int} (e : c.state = st) : w.cell? ⟨g, 2, none⟩ = some (.int .i64 st) := by obtain ⟨a1, a2, a3, a4, a5, a6, a7, h1, h2⟩ := h; rw [← e]; exact h1.tab.cell 2
theorem RConn.c3 (h : RConn w base g c q F) {r : Nat} (e : c.inn.r = r) : w.cell? ⟨g, 3, none⟩ = some (.int .u32 (r : Int)) := by obtain ⟨a1, a2, a3, a4, a5, a6, a7, h1, h2⟩ := h; rw [← e]; exact h1.tab.cell 3
theorem RConn.c4 (h : RConn w base g c q F) {r : Nat} (e : c.out.u = r) : w.cell? ⟨g, 4, none⟩ = some (.int .u32 (r : Int)) := by obtain ⟨a1, a2, a3, a4, a5, a6, a7, h1, h2⟩ := h; rw [← e]; exact h1.tab.cell 4
theorem RConn.c5 (h : RConn w base g c q F) {r : Nat} (e : c.out.n = r) : w.cell? ⟨g, 5, none⟩ = some (.int .u32 (r : Int)) := by obtain ⟨a1, a2, a3, a4, a5, a6, a7, h1, h2⟩ := h; rw [← e]; exact h1.tab.cell 5
theorem RConn.has (h : RConn w base g c q F) (k : Nat) (hk : k < 21) : ∃ v, w.cell? ⟨g, k, none⟩ = some v := by
  obtain ⟨a1, a2, a3, a4, a5, a6, a7, h1, h2⟩ := h
  have : (rcCells c a1 a2 a3 a5 a6 a7).length = 21 := rfl
  exact ⟨(rcCells c a1 a2 a3 a5 a6 a7)[k]'(by omega), by rw [h1.tab.cell k]; exact List.getElem?_eq_getElem _⟩
theorem RConn.fz (h : RConn w base g c q F) (k : Nat) : w.frozen? ⟨g, k, none⟩ = false := by obtain ⟨a1, a2, a3, a4, a5, a6, a7, h1, h2⟩ := h; exact h1.tab.frozen k
theorem RConn.fset (h : RConn w base g c q F) (k : Nat) (u : Value) : Frame F w (w.setCell ⟨g, k, none⟩ u) := by obtain ⟨a1, a2, a3, a4, a5, a6, a7, h1, h2⟩ := h; exact h1.fset k u
theorem RConn.own_ (h : RConn w base g c q F) (b : Bool) : RConn (w.setCell ⟨g, 17, none⟩ (.bool b)) base g { c with begin_ := b } q F := by
  obtain ⟨a1, a2, a3, a4, a5, a6, a7, h1, h2⟩ := h
  exact ⟨b, a2, a3, a4, a5, a6, a7, h1.set1 17 _, h2.early, fun _ => rfl, h2.owe, h2.gv, h2.len, h2.num⟩
/-- where it is of no account any more -/
theorem RConn.ownFree (h : RConn w base g c q F) (b : Bool) (hs : c.state ≠ 1) : RConn (w.setCell ⟨g, 17, none⟩ (.bool b)) base g c q F := by
  obtain ⟨a1, a2, a3, a4, a5, a6, a7, h1, h2⟩ := h
  exact ⟨b, a2, a3, a4, a5, a6, a7, h1.set1 17 _, h2.early, fun e => absurd e hs, h2.owe, h2.gv, h2.len, h2.num⟩
theorem RConn.owe_ (h : RConn w base g c q F) (b : Bool) : RConn (w.setCell ⟨g, 18, none⟩ (.bool b)) base g { c with acks := b } q F := by
  obtain ⟨a1, a2, a3, a4, a5, a6, a7, h1, h2⟩ := h
  exact ⟨a1, b, a3, a4, a5, a6, a7, h1.set1 18 _, h2.early, h2.own, fun _ => rfl, h2.gv, h2.len, h2.num⟩
theorem RConn.w_ (h : RConn w base g c q F) (b : Int) : RConn (w.setCell ⟨g, 11, none⟩ (.int .i64 b)) base g { c with out := { c.out with w := b } } q F := by
  obtain ⟨a1, a2, a3, a4, a5, a6, a7, h1, h2⟩ := h
  exact ⟨a1, a2, a3, a4, a5, a6, a7, h1.set1 11 _, h2.early, h2.own, h2.owe, h2.gv, h2.len, h2.num⟩
theorem RConn.st_ (h : RConn w base g c q F) (st : Int) (h1 : st ≠ 1) (h5 : c.state ≠ 5) : RConn (w.setCell ⟨g, 2, none⟩ (.int .i64 st)) base g { c with state := st } q F := by
  obtain ⟨a1, a2, a3, a4, a5, a6, a7, h1', h2⟩ := h
  exact ⟨a1, a2, a3, a4, a5, a6, a7, h1'.set1 2 _, h2.early, fun e => absurd e h1, fun _ => h2.owe h5, h2.gv, h2.len, h2.num⟩
theorem RConn.off_ (h : RConn w base g c q F) (hg : c.gave = false) : RConn (w.setCell ⟨g, 2, none⟩ (.int .i64 5)) base g { c with state := 5, off := true } q F := by
  obtain ⟨a1, a2, a3, a4, a5, a6, a7, h1', h2⟩ := h
  exact ⟨a1, a2, a3, a4, a5, a6, a7, h1'.set1 2 _, h2.early, fun e => absurd (show (5 : Int) = 1 from e) (by decide), fun e => absurd rfl e, by rw [h2.gv, hg]; rfl, h2.len, h2.num⟩
theorem RConn.drewN (h : RConn w base g c q F) (n : Nat) : RConn (w.drewN n) base g c q F := h.keep (below_drewN (Below.refl _ _) n)
/-- what is noted behind the end is of no account -/
theorem RConn.noted (h : RConn w base g c q F) (hd : c.inn.done = true) (ht : c.inn.told = true) (s : TSeg) : RConn w base g { c with inn := tFlow (tNote c.inn s) } q F := by
  obtain ⟨a1, a2, a3, a4, a5, a6, a7, h1, h2⟩ := h
  obtain ⟨f1, f2, f3, f4, f5⟩ := flow_kept hd ht s
  refine ⟨a1, a2, a3, a4, a5, a6, a7, ?_, fun e => ?_, h2.own, h2.owe, h2.gv, h2.len, h2.num⟩
  · show RcAt w base g (rcList c.dst c.src c.state (tFlow (tNote c.inn s)).r c.out.u c.out.n a5 a6 (tFlow (tNote c.inn s)).fin (tFlow (tNote c.inn s)).told a7 c.out.w c.out.m c.out.ended c.out.fin c.out.clock c.out.tries a1 a2 c.again a3) a5 a6 a7 (tFlow (tNote c.inn s)).ready a4 c.out.bytes F
    rw [f2, f3, f4, f5, ← ht]
    exact h1
  · have e : (tFlow (tNote c.inn s)).done = false := e
    rw [f1] at e
    cases e
end
set_option maxHeartbeats 1000000 in
theorem rnote_skip (g : Nat) (st : Int) (s : TSeg) (A : Option Addr) (n cap : Nat) (w : World) (hs : st ≠ 2) (c2 : w.cell? ⟨g, 2, none⟩ = some (.int .i64 st)) :
    Calls Try.prog 65 #[.pointer (some ⟨g, 0, none⟩), s.val (.slice A n cap)] w fun e w' => (∃ u, e = .returned u) ∧ Below w.heap.size w w' := by
  obtain ⟨s0, d0, sq, ak, fl, wi, ms, data⟩ := s
  dsimp only [TSeg.val, TSeg.cells]
  have hsb : (st != 2) = true := by simpa using hs
  have c2 := cell_below (below_alloc w (.cells #[.int .i64 s0, .int .i64 d0, .int .u32 (sq : Int), .int .u32 (ak : Int), .int .i64 fl, .int .i64 wi, .int .i64 ms, .slice A n cap] 51)) c2
  have HB := hid (below_alloc w (.cells #[.int .i64 s0, .int .i64 d0, .int .u32 (sq : Int), .int .u32 (ak : Int), .int .i64 fl, .int .i64 wi, .int .i64 ms, .slice A n cap] 51))
  go_enter Try.func65, Try.ntmps65
  go_wp2_with fail
  refine end_ret rfl rfl ?_
  exact ⟨⟨_, rfl⟩, HB.out⟩
def RTakePost (base g : Nat) (c' : TConn) (q : Nat) (F : Nat → Prop) (w : World) (e : Ending) (w' : World) : Prop := (∃ u, e = .returned u) ∧ ∃ F', RConn w' base g c' q F' ∧ Frame F w w' ∧ ∀ k, F' k → F k ∨ w.heap.size ≤ k
theorem take_fin {base g : Nat} {c c' : TConn} {q q' : Nat} {F : Nat → Prop} {w wx : World} {e : Ending} (hq : q ≤ q') (he : ∃ u, e = .returned u) (hr : RConn wx base g c' q F) (hf : Frame F w wx) (hc : c = c') : RTakePost base g c q' F w e wx :=
  ⟨he, F, by rw [hc]; exact hr.more hq, hf, fun _ h => .inl h⟩

set_option maxHeartbeats 8000000 in
theorem rtake_conn (base g : Nat) (c : TConn) (qm : Nat) (F : Nat → Prop) (s : TSeg) (A : Option Addr) (n cap : Nat) (w : World) (h : RConn w base g c qm F) (hi : InOk c.inn) (ho : OutOk c) (hb : BaseOk c) (hs : s.seq < 4294967296) (ha : s.ack < 4294967296) (hd : Bs w (.slice A n cap) s.data) (hl : n ≤ 100000) (hm : qm ≤ 1000000) (hf : n = 0 ∨ ∀ k, (Value.slice A n cap).ownBlock = some k → ¬ F k) :
    Calls Try.prog 47 #[.pointer (some ⟨g, 0, none⟩), s.val (.slice A n cap)] w (RTakePost base g (tTake c s) (qm + s.data.length) F w) := by
  obtain ⟨s0, d0, sq, ak, fl, wi, ms, data⟩ := s
  have Hb := hid hb
  have Ho := hid ho
  have Hi := hid hi
  have Hd := hid hd
  have Hf := hid hf
  have Hdl := hid (show data.length = n from hd.open.1)
  dsimp only [TSeg.val, TSeg.cells]
  simp only at hs ha
  have HF := hid (show ∀ k, F k → k < w.heap.size from fun k hk => (h.bd k hk).2)
  have BX := hid (Blk.new w 51 #[.int .i64 s0, .int .i64 d0, .int .u32 (sq : Int), .int .u32 (ak : Int), .int .i64 fl, .int .i64 wi, .int .i64 ms, .slice A n cap])
  have R0 := hid (h.keep (below_alloc w (.cells #[.int .i64 s0, .int .i64 d0, .int .u32 (sq : Int), .int .u32 (ak : Int), .int .i64 fl, .int .i64 wi, .int .i64 ms, .slice A n cap] 51)))
  have FR := hid (Below.frameF (below_alloc w (.cells #[.int .i64 s0, .int .i64 d0, .int .u32 (sq : Int), .int .u32 (ak : Int), .int .i64 fl, .int .i64 wi, .int .i64 ms, .slice A n cap] 51)) F)
  have D0 := hid (hd.alloc (.cells #[.int .i64 s0, .int .i64 d0, .int .u32 (sq : Int), .int .u32 (ak : Int), .int .i64 fl, .int .i64 wi, .int .i64 ms, .slice A n cap] 51))
  obtain ⟨st, hst⟩ : ∃ x, c.state = x := ⟨_, rfl⟩
  obtain ⟨r, hr⟩ : ∃ x, c.inn.r = x := ⟨_, rfl⟩
  obtain ⟨u, hu⟩ : ∃ x, c.out.u = x := ⟨_, rfl⟩
  obtain ⟨nn, hnn⟩ : ∃ x, c.out.n = x := ⟨_, rfl⟩
  have hrl : r < 4294967296 := by rw [← hr]; exact hi.r
  have hul : u < 4294967296 := by rw [← hu]; exact ho.u
  have hnl : nn < 4294967296 := by rw [← hnn]; exact ho.n
  have Hst := hid hst
  have Hr := hid hr
  have Hu := hid hu
  have Hnn := hid hnn
  clear h hi ho hb hd hf hst hr hu hnn
  have b2 : (w.alloc (.cells #[.int .i64 s0, .int .i64 d0, .int .u32 (sq : Int), .int .u32 (ak : Int), .int .i64 fl, .int .i64 wi, .int .i64 ms, .slice A n cap] 51)).cell? ⟨w.heap.size, 2, none⟩ = some (.int .u32 (sq : Int)) := BX.out.cell 2
  have b3 : (w.alloc (.cells #[.int .i64 s0, .int .i64 d0, .int .u32 (sq : Int), .int .u32 (ak : Int), .int .i64 fl, .int .i64 wi, .int .i64 ms, .slice A n cap] 51)).cell? ⟨w.heap.size, 3, none⟩ = some (.int .u32 (ak : Int)) := BX.out.cell 3
  have b4 : (w.alloc (.cells #[.int .i64 s0, .int .i64 d0, .int .u32 (sq : Int), .int .u32 (ak : Int), .int .i64 fl, .int .i64 wi, .int .i64 ms, .slice A n cap] 51)).cell? ⟨w.heap.size, 4, none⟩ = some (.int .i64 fl) := BX.out.cell 4
  have a2 := R0.out.c2 Hst.out
  have a3 := R0.out.c3 Hr.out
  have a4 := R0.out.c4 Hu.out
  have a5 := R0.out.c5 Hnn.out
  obtain ⟨v17, a17⟩ := R0.out.has 17 (by decide)
  obtain ⟨v18, a18⟩ := R0.out.has 18 (by decide)
  have z2 := R0.out.fz 2
  have z17 := R0.out.fz 17
  have z18 := R0.out.fz 18
  obtain ⟨f4, hf4⟩ : ∃ b, (bits .and .i64 fl 4 != 0) = b := ⟨_, rfl⟩
  have F4 := hid (show tBit fl 4 = f4 from hf4)
  go_enter Try.func47, Try.ntmps47
  go_upto_region 1 with fail
  generalize w.alloc (.cells #[.int .i64 s0, .int .i64 d0, .int .u32 (sq : Int), .int .u32 (ak : Int), .int .i64 fl, .int .i64 wi, .int .i64 ms, .slice A n cap] 51) = w1 at *
  by_cases h5 : st = 5
  · subst h5
    go_wp2_with fail
    refine end_ret rfl rfl ?_
    exact take_fin (Nat.le_add_right _ _) ⟨_, rfl⟩ R0.out FR.out (by unfold tTake; rw [if_pos Hst.out])
  have H5 := hid (show c.state ≠ 5 by rw [Hst.out]; exact h5)
  have hgv := hid (show c.gave = false by cases e : c.gave with | false => rfl | true => exact absurd (Hb.out.gave e) H5.out)
  have h5b : (st == 5) = false := by simpa using h5
  cases f4 with
  | true =>
    by_cases hsr : sq = r
    · subst hsr
      have hsb : ((sq : Int) == (sq : Int)) = true := by simp
      go_upto_region 3 with fail
      go_quiet (fail)
      have R1 := hid (R0.out.drewN nq)
      go_wp2_with fail
      refine end_ret rfl rfl ?_
      refine take_fin (Nat.le_add_right _ _) ⟨_, rfl⟩ (R1.out.off_ hgv.out) ((FR.out.trans (Below.frameF (below_drewN (Below.refl _ _) nq) F) (fun _ _ h => h)).trans (R1.out.fset 2 _) (fun _ _ h => h)) ?_
      unfold tTake
      rw [if_neg H5.out, if_pos F4.out, if_pos Hr.out.symm]
    · have hsb : ((sq : Int) == (r : Int)) = false := by simp; omega
      go_upto_region 3 with fail
      go_quiet (fail)
      have R1 := hid (R0.out.drewN nq)
      go_wp2_with fail
      refine end_ret rfl rfl ?_
      refine take_fin (Nat.le_add_right _ _) ⟨_, rfl⟩ R1.out (FR.out.trans (Below.frameF (below_drewN (Below.refl _ _) nq) F) (fun _ _ h => h)) ?_
      unfold tTake
      rw [if_neg H5.out, if_pos F4.out, if_neg (fun e => hsr (e.trans Hr.out))]
  | false =>
  have F4 := hid (show ¬ tBit fl 4 = true by rw [F4.out]; simp)
  obtain ⟨f2, hf2⟩ : ∃ b, (bits .and .i64 fl 2 != 0) = b := ⟨_, rfl⟩
  have F2 := hid (show tBit fl 2 = f2 from hf2)
  obtain ⟨f16, hf16⟩ : ∃ b, (bits .and .i64 fl 16 != 0) = b := ⟨_, rfl⟩
  have F16 := hid (show tBit fl 16 = f16 from hf16)
  have hf16b : (bits .and .i64 fl 16 == 0) = !f16 := by rw [← hf16]; simp [bne]
  cases f2 with
  | true =>
    obtain ⟨s1, hs1⟩ : ∃ x, (sq + 1) % 4294967296 = x := ⟨_, rfl⟩
    have hs1I : ((sq : Int) + 1) % 4294967296 = (s1 : Int) := by omega
    obtain ⟨cb, hcb⟩ : ∃ b, (decide (st = 1) && !f16 && decide (s1 = r)) = b := ⟨_, rfl⟩
    have Hcb := hid hcb
    have hcs : st ≠ 1 ∧ (st == 1) = false ∧ cb = false ∨ st = 1 ∧ (f16 = true ∧ cb = false ∨ f16 = false ∧ (s1 = r ∧ cb = true ∨ ((s1 : Int) == (r : Int)) = false ∧ s1 ≠ r ∧ cb = false)) := by
      rw [← hcb]
      by_cases z1 : st = 1 <;> by_cases z2 : s1 = r <;> cases f16 <;> simp [z1, z2] <;> omega
    have HRes := hid (show tTake c (⟨s0, d0, sq, ak, fl, wi, ms, data⟩ : TSeg) = if cb = true then { c with begin_ := true } else { c with acks := true } by
      unfold tTake
      rw [if_neg H5.out, if_neg F4.out, if_pos F2.out]
      have e1 : (c.state = 1 ∧ tBit fl 16 = false ∧ (sq + 1) % 4294967296 = c.inn.r) ↔ cb = true := by
        rw [F16.out, Hr.out, Hst.out, hs1, ← hcb]
        simp [and_assoc]
      by_cases hc : cb = true
      · rw [if_pos hc, if_pos (e1.2 hc)]
      · rw [if_neg hc, if_neg (fun h => hc (e1.1 h))])
    clear hcb hs1
    go_upto_region 6 with fail
    go_cut [50] from 30 to 50 (fun s wx => s = .bool cb ∧ ∃ q1, wx = w1.drewN q1)
    case first =>
      clear Hcb HRes
      rcases hcs with ⟨h1, h1b, rfl⟩ | ⟨rfl, ⟨rfl, rfl⟩ | ⟨rfl, ⟨rfl, rfl⟩ | ⟨hb2, hne, rfl⟩⟩⟩
      all_goals
        go_quiet (fail)
        go_wp2_with fail
        go_meet
        case rel => exact ⟨by first | rfl | (simp; done), _, rfl⟩
    case rest =>
    obtain ⟨rfl, q1, rfl⟩ := hcut
    have R1 := hid (R0.out.drewN q1)
    have FR1 := hid (FR.out.trans (Below.frameF (below_drewN (Below.refl _ _) q1) F) (fun _ _ h => h))
    clear hcs
    cases cb with
    | true =>
      go_wp2_with fail
      refine end_ret rfl rfl ?_
      exact take_fin (Nat.le_add_right _ _) ⟨_, rfl⟩ (R1.out.own_ true) (FR1.out.trans (R1.out.fset 17 _) (fun _ _ h => h)) (by rw [HRes.out, if_pos (by simp)])
    | false =>
      go_wp2_with fail
      refine end_ret rfl rfl ?_
      exact take_fin (Nat.le_add_right _ _) ⟨_, rfl⟩ (R1.out.owe_ true) (FR1.out.trans (R1.out.fset 18 _) (fun _ _ h => h)) (by rw [HRes.out, if_neg (by simp)])
  | false =>
  have F2 := hid (show ¬ tBit fl 2 = true by rw [F2.out]; simp)
  cases f16 with
  | false =>
    go_wp2_with fail
    refine end_ret rfl rfl ?_
    exact take_fin (Nat.le_add_right _ _) ⟨_, rfl⟩ R0.out FR.out (by unfold tTake; rw [if_neg H5.out, if_neg F4.out, if_neg F2.out, if_pos F16.out])
  | true =>
  have F16 := hid (show ¬ tBit fl 16 = false by rw [F16.out]; simp)
  obtain ⟨lna, hlna⟩ : ∃ b, tLess nn ak = b := ⟨_, rfl⟩
  have HLna := hid (show ∀ k, Calls Try.prog 37 #[.int .u32 (nn : Int), .int .u32 (ak : Int)] (w1.drewN k) fun e w' => e = .returned (.bool lna) ∧ w' = w1.drewN k from fun k => by rw [← hlna]; exact rless_any nn ak hnl ha _)
  have Hlna := hid (show tLess c.out.n ak = lna by rw [Hnn.out]; exact hlna)
  clear hlna
  go_upto_region 10 with fail
  go_cut [62] from 62 to 69 (fun s wx => s = .bool lna ∧ ∃ q1, wx = w1.drewN q1)
  case first =>
    go_quiet ((go_at_call 37; exact Calls.quiet_of_same (HLna.out _)))
    go_wp2_with fail
    go_meet
    case rel => exact ⟨rfl, _, rfl⟩
  case rest =>
  obtain ⟨rfl, q1, rfl⟩ := hcut
  have R1 := hid (R0.out.drewN q1)
  have FR1 := hid (FR.out.trans (Below.frameF (below_drewN (Below.refl _ _) q1) F) (fun _ _ h => h))
  have BX1 := hid (BX.out.drewN q1)
  have D1 := hid (D0.out.drewN q1)
  clear HLna
  cases lna with
  | true =>
    go_wp2_with fail
    refine end_ret rfl rfl ?_
    exact take_fin (Nat.le_add_right _ _) ⟨_, rfl⟩ (R1.out.owe_ true) (FR1.out.trans (R1.out.fset 18 _) (fun _ _ h => h)) (by unfold tTake; rw [if_neg H5.out, if_neg F4.out, if_neg F2.out, if_neg F16.out, if_pos Hlna.out])
  | false =>
  have Hlna := hid (show ¬ tLess c.out.n ak = true by rw [Hlna.out]; simp)
  clear R0 FR BX D0 a2 a3 a4 a5 a17 a18 z2 z17 z18 b2 b3 b4
  generalize w1.drewN q1 = w2 at *
  have b2 : w2.cell? ⟨w.heap.size, 2, none⟩ = some (.int .u32 (sq : Int)) := BX1.out.cell 2
  have b3 : w2.cell? ⟨w.heap.size, 3, none⟩ = some (.int .u32 (ak : Int)) := BX1.out.cell 3
  have a2 := R1.out.c2 Hst.out
  have a5 := R1.out.c5 Hnn.out
  obtain ⟨v17, a17⟩ := R1.out.has 17 (by decide)
  have z2 := R1.out.fz 2
  have z17 := R1.out.fz 17
  by_cases h1ak : st = 1 ∧ ak ≠ nn
  · obtain ⟨rfl, hne⟩ := h1ak
    have hneb : ((ak : Int) != (nn : Int)) = true := by simp only [bne_iff_ne, ne_eq]; omega
    go_upto_region 13 with fail
    go_quiet (fail)
    go_wp2_with fail
    refine end_ret rfl rfl ?_
    refine take_fin (Nat.le_add_right _ _) ⟨_, rfl⟩ (R1.out.drewN nq) (FR1.out.trans (Below.frameF (below_drewN (Below.refl _ _) nq) F) (fun _ _ h => h)) ?_
    unfold tTake
    rw [if_neg H5.out, if_neg F4.out, if_neg F2.out, if_neg F16.out, if_neg Hlna.out, if_pos ⟨Hst.out, by rw [Hnn.out]; exact hne⟩]
  obtain ⟨c1, hc1⟩ : ∃ x : TConn, { c with state := if c.state = 1 then 2 else c.state } = x := ⟨_, rfl⟩
  have HRes := hid (show tTake c (⟨s0, d0, sq, ak, fl, wi, ms, data⟩ : TSeg) = tTakeA c1 (⟨s0, d0, sq, ak, fl, wi, ms, data⟩ : TSeg) by
    unfold tTake
    rw [if_neg H5.out, if_neg F4.out, if_neg F2.out, if_neg F16.out, if_neg Hlna.out, if_neg (fun h => h1ak ⟨Hst.out.symm.trans h.1, fun e => h.2 (e.trans Hnn.out.symm)⟩), hc1])
  obtain ⟨st1, hst1⟩ : ∃ x : Int, (if st = 1 then 2 else st) = x := ⟨_, rfl⟩
  have Hc1 := hid (show c1.state = st1 ∧ c1.out = c.out ∧ c1.inn = c.inn ∧ c1.gave = false ∧ c1.acks = c.acks by
    rw [← hc1, ← hst1, ← Hst.out]
    exact ⟨rfl, rfl, rfl, hgv.out, rfl⟩)
  have hst2 : st1 = 2 ∨ st1 = 3 ∨ st1 = 4 := by
    have := Ho.out.st
    rw [Hst.out] at this
    rw [← hst1]
    split <;> omega
  -- what is answered goes with the numbers
  have Hdrop := hid (show tLess u ak = true → min (mSub ak c1.out.u) c1.out.bytes.length = tTaken c1.out ak by
    intro hlu
    rw [Hc1.out.2.1, Hu.out]
    by_cases h1 : st = 1
    · have hak : ak = nn := Classical.byContradiction fun e => h1ak ⟨h1, e⟩
      obtain ⟨g1, g2, g3, _⟩ := Hb.out.s1 (Hst.out.trans h1)
      unfold tTaken
      rw [g1]
      simp
    · have hl2 := Hlna.out
      have hb1 := Hb.out.base (by have := Ho.out.st; have := H5.out; have := Hst.out; omega)
      by_cases hfin : c.out.fin = true ∧ ak = nn
      · unfold tTaken
        rw [hb1, Hu.out, hlu, if_pos rfl]
        rfl
      · have := ans_base Ho.out hb1 ha (by rw [Hu.out]; exact hlu) (by simpa using hl2) (fun hf e => hfin ⟨hf, e.trans Hnn.out⟩)
        rw [this.2.1, ← Hu.out]
        exact Nat.min_eq_left this.2.2)
  go_upto_if 77 with fail
  go_cut [] from 77 to 90 (fun wx => RConn wx base g c1 qm F ∧ Frame F w wx ∧ Blk wx w.heap.size 51 [.int .i64 s0, .int .i64 d0, .int .u32 (sq : Int), .int .u32 (ak : Int), .int .i64 fl, .int .i64 wi, .int .i64 ms, .slice A n cap] ∧ Bs wx (.slice A n cap) data)
  case first =>
    have hFn : ∀ z, F z → z ≠ w.heap.size := fun z hz e => by have := HF.out z hz; omega
    by_cases h1 : st = 1
    · have hak : ak = nn := Classical.byContradiction fun e => h1ak ⟨h1, e⟩
      subst h1
      subst hak
      have hneb : ((ak : Int) != (ak : Int)) = false := by simp
      have Hc := hid (show { c with state := 2 } = c1 by rw [← hc1, if_pos Hst.out])
      have HFn := hid hFn
      clear hst1 hc1 hFn h1ak
      go_upto_region 13 with fail
      go_quiet (fail)
      have R2 := hid (R1.out.drewN nq)
      have R3 := hid (R2.out.st_ 2 (by decide) H5.out)
      have R4 := hid (R3.out.ownFree false (show (2 : Int) ≠ 1 by decide))
      have F5 := hid (((Below.frameF (below_drewN (Below.refl _ _) nq) F).trans (R2.out.fset 2 (.int .i64 2)) (fun _ _ h => h)).trans (R3.out.fset 17 (.bool false)) (fun _ _ h => h))
      go_wp2_with fail
      go_meet
      case rel => exact ⟨by rw [← Hc.out]; exact R4.out, FR1.out.trans F5.out (fun _ _ h => h), F5.out.blk BX1.out (fun e => HFn.out _ e rfl), bs_frame D1.out F5.out (by rw [Hdl.out]; exact Hf.out)⟩
    · have h1b : (st == 1) = false := by simpa using h1
      have Hc := hid (show c = c1 by rw [← hc1, if_neg (fun e => h1 (Hst.out.symm.trans e))])
      clear hst1 hc1 hFn h1ak h1
      go_wp2_with fail
      go_meet
      case rel => exact ⟨by rw [← Hc.out]; exact R1.out, FR1.out, BX1.out, D1.out⟩
  case rest =>
  obtain ⟨hR, hfr, hbx, hD⟩ := hcut
  generalize wc = w3 at *
  have R2 := hid hR
  have FR2 := hid hfr
  have BX2 := hid hbx
  have D2 := hid hD
  have Hst1 := hid hst1
  have Hc1e := hid hc1
  clear hR hfr hbx hD a2 a5 a17 z2 z17 b2 b3 R1 FR1 BX1 D1 hst1 hc1 h1ak h5 h5b
  obtain ⟨lu, hlu⟩ : ∃ b, tLess u ak = b := ⟨_, rfl⟩
  have Hlu := hid hlu
  have b3 : w3.cell? ⟨w.heap.size, 3, none⟩ = some (.int .u32 (ak : Int)) := BX2.out.cell 3
  have a4 : w3.cell? ⟨g, 4, none⟩ = some (.int .u32 (u : Int)) := R2.out.c4 (by rw [Hc1.out.2.1]; exact Hu.out)
  have HLu := hid (show ∀ k, Calls Try.prog 37 #[.int .u32 (u : Int), .int .u32 (ak : Int)] (w3.drewN k) fun e w' => e = .returned (.bool lu) ∧ w' = w3.drewN k from fun k => by rw [← hlu]; exact rless_any u ak hul ha _)
  clear hlu
  go_upto_region 16 with fail
  go_cut [97] from 91 to 97 (fun s wx => s = .bool lu ∧ ∃ q1, wx = w3.drewN q1)
  case first =>
    go_quiet ((go_at_call 37; exact Calls.quiet_of_same (HLu.out _)))
    go_wp2_with fail
    go_meet
    case rel => exact ⟨rfl, _, rfl⟩
  case rest =>
  obtain ⟨rfl, q2, rfl⟩ := hcut
  have R3 := hid (R2.out.drewN q2)
  have FR3 := hid (FR2.out.trans (Below.frameF (below_drewN (Below.refl _ _) q2) F) (fun _ _ h => h))
  have BX3 := hid (BX2.out.drewN q2)
  have D3 := hid (D2.out.drewN q2)
  clear HLu R2 FR2 BX2 D2 b3 a4
  generalize w3.drewN q2 = w4 at *
  -- closed by its answer?
  have HAns := hid (show ∀ wx, lu = true → RConn wx base g c1 qm F → Calls Try.prog 64 #[.pointer (some ⟨g, 0, none⟩), .int .u32 (ak : Int)] wx (RPost base g (tAns c1 ak) qm F wx) from fun wx hl hR => by
    have ho1 : OutOk c1 := by
      rw [← Hc1e.out]
      exact state_ok (st := if c.state = 1 then 2 else c.state) Ho.out c.off (by have := Ho.out.st; split <;> omega) (by intro q; split <;> omega) (fun _ => H5.out)
    exact ranswered_conn base g c1 qm F ak wx hR ho1 ha (Hdrop.out (by rw [Hlu.out]; exact hl)) Hc1.out.2.2.2.1)
  have b3 : w4.cell? ⟨w.heap.size, 3, none⟩ = some (.int .u32 (ak : Int)) := BX3.out.cell 3
  have HFn := hid (show ∀ z, F z → z ≠ w.heap.size from fun z hz e => by have := HF.out z hz; omega)
  by_cases hcl : lu = true ∧ st1 = 4 ∧ ak = nn
  · obtain ⟨rfl, rfl, rfl⟩ := hcl
    have Hta := hid (show tAns c1 ak = { c1 with out := tAnswered c1.out ak, again := false, state := 5, off := true } by unfold tAns; rw [if_pos ⟨Hc1.out.1, by rw [Hc1.out.2.1]; exact Hnn.out.symm⟩])
    go_upto_region 18 with (first | (go_at_call 64; refine (HAns.out _ rfl R3.out).mono ?_; rintro e w5 ⟨⟨u5, rfl⟩, hR5, hf5⟩; have R5 := hid hR5; have F5 := hid hf5; clear hR5 hf5) | fail)
    have a2 : w5.cell? ⟨g, 2, none⟩ = some (.int .i64 5) := R5.out.c2 (by rw [Hta.out])
    go_wp2_with fail
    refine end_ret rfl rfl ?_
    refine take_fin (Nat.le_add_right _ _) ⟨_, rfl⟩ R5.out (FR3.out.trans F5.out (fun _ _ h => h)) ?_
    rw [HRes.out, Hta.out]
    unfold tTakeA
    rw [if_pos (by rw [Hc1.out.2.1, Hu.out]; exact Hlu.out), if_pos ⟨Hc1.out.1, by rw [Hc1.out.2.1]; exact Hnn.out.symm⟩]
  obtain ⟨c2, hc2⟩ : ∃ x : TConn, (if lu = true then { c1 with out := tAnswered c1.out ak, again := false } else c1) = x := ⟨_, rfl⟩
  have HRes := hid (show tTake c (⟨s0, d0, sq, ak, fl, wi, ms, data⟩ : TSeg) = tTakeB c2 (⟨s0, d0, sq, ak, fl, wi, ms, data⟩ : TSeg) by
    rw [HRes.out, ← hc2]
    unfold tTakeA
    rw [Hc1.out.2.1, Hu.out]
    cases lu with
    | true => rw [if_pos Hlu.out, if_neg (fun h => hcl ⟨rfl, Hc1.out.1.symm.trans h.1, h.2.trans Hnn.out⟩), if_pos rfl]
    | false => rw [if_neg (by rw [Hlu.out]; simp), if_neg (by simp)])
  have Hc2 := hid (show c2.state = st1 ∧ c2.inn = c.inn ∧ c2.acks = c.acks ∧ c2.out.u = if lu = true then ak else u by
    rw [← hc2]
    cases lu with
    | true => exact ⟨Hc1.out.1, Hc1.out.2.2.1, Hc1.out.2.2.2.2, rfl⟩
    | false => exact ⟨Hc1.out.1, Hc1.out.2.2.1, Hc1.out.2.2.2.2, by rw [if_neg (by simp), if_neg (by simp), Hc1.out.2.1]; exact Hu.out⟩)
  go_upto_if 97 with fail
  go_cut [] from 97 to 106 (fun wx => RConn wx base g c2 qm F ∧ Frame F w wx ∧ Blk wx w.heap.size 51 [.int .i64 s0, .int .i64 d0, .int .u32 (sq : Int), .int .u32 (ak : Int), .int .i64 fl, .int .i64 wi, .int .i64 ms, .slice A n cap] ∧ Bs wx (.slice A n cap) data)
  case first =>
    cases lu with
    | false =>
      have Hc := hid (show c1 = c2 by rw [← hc2, if_neg (by simp)])
      clear hc2 hcl
      go_wp2_with fail
      go_meet
      case rel => exact ⟨by rw [← Hc.out]; exact R3.out, FR3.out, BX3.out, D3.out⟩
    | true =>
      have Hc := hid (show tAns c1 ak = c2 by
        rw [← hc2, if_pos rfl]
        unfold tAns
        rw [if_neg (fun h => hcl ⟨rfl, Hc1.out.1.symm.trans h.1, h.2.trans (by rw [Hc1.out.2.1]; exact Hnn.out)⟩)])
      have h5b : (st1 == 5) = false := by rcases hst2 with h | h | h <;> rw [h] <;> rfl
      clear hc2 hcl
      go_upto_region 18 with (first | (go_at_call 64; refine (HAns.out _ rfl R3.out).mono ?_; rintro e w5 ⟨⟨u5, rfl⟩, hR5, hf5⟩; have R5 := hid hR5; have F5 := hid hf5; clear hR5 hf5) | fail)
      have a2 : w5.cell? ⟨g, 2, none⟩ = some (.int .i64 st1) := R5.out.c2 (by rw [Hc.out]; exact Hc2.out.1)
      go_wp2_with fail
      go_meet
      case rel => exact ⟨by rw [← Hc.out]; exact R5.out, FR3.out.trans F5.out (fun _ _ h => h), F5.out.blk BX3.out (fun e => HFn.out _ e rfl), bs_frame D3.out F5.out (by rw [Hdl.out]; exact Hf.out)⟩
  case rest =>
  obtain ⟨hR, hfr, hbx, hD⟩ := hcut
  generalize wc = w5 at *
  have R4 := hid hR
  have FR4 := hid hfr
  have BX4 := hid hbx
  have D4 := hid hD
  clear hR hfr hbx hD b3 R3 FR3 BX3 D3 hc2 hcl HAns
  obtain ⟨u2, hu2⟩ : ∃ x, c2.out.u = x := ⟨_, rfl⟩
  have hu2l : u2 < 4294967296 := by rw [← hu2, Hc2.out.2.2.2]; split <;> assumption
  obtain ⟨la, hla⟩ : ∃ b, tLess ak u2 = b := ⟨_, rfl⟩
  have Hla := hid (show tLess ak c2.out.u = la by rw [hu2]; exact hla)
  have b3 : w5.cell? ⟨w.heap.size, 3, none⟩ = some (.int .u32 (ak : Int)) := BX4.out.cell 3
  have a4 : w5.cell? ⟨g, 4, none⟩ = some (.int .u32 (u2 : Int)) := R4.out.c4 hu2
  have HLa := hid (show ∀ k, Calls Try.prog 37 #[.int .u32 (ak : Int), .int .u32 (u2 : Int)] (w5.drewN k) fun e w' => e = .returned (.bool la) ∧ w' = w5.drewN k from fun k => by rw [← hla]; exact rless_any ak u2 ha hu2l _)
  clear hla hu2
  go_upto_region 19 with fail
  go_cut [114] from 107 to 114 (fun s wx => s = .bool (!la) ∧ ∃ q1, wx = w5.drewN q1)
  case first =>
    go_quiet ((go_at_call 37; exact Calls.quiet_of_same (HLa.out _)))
    go_wp2_with fail
    go_meet
    case rel => exact ⟨rfl, _, rfl⟩
  case rest =>
  obtain ⟨rfl, q3, rfl⟩ := hcut
  have R5 := hid (R4.out.drewN q3)
  have FR5 := hid (FR4.out.trans (Below.frameF (below_drewN (Below.refl _ _) q3) F) (fun _ _ h => h))
  have BX5 := hid (BX4.out.drewN q3)
  have D5 := hid (D4.out.drewN q3)
  clear HLa R4 FR4 BX4 D4 b3 a4
  generalize w5.drewN q3 = w6 at *
  have b5 : w6.cell? ⟨w.heap.size, 5, none⟩ = some (.int .i64 wi) := BX5.out.cell 5
  obtain ⟨v11, a11⟩ := R5.out.has 11 (by decide)
  have z11 := R5.out.fz 11
  obtain ⟨c3, hc3⟩ : ∃ x : TConn, { c2 with out := if la = true then c2.out else { c2.out with w := wi } } = x := ⟨_, rfl⟩
  have Hc3 := hid (show c3.state = st1 ∧ c3.inn = c.inn ∧ c3.acks = c.acks by rw [← hc3]; exact ⟨Hc2.out.1, Hc2.out.2.1, Hc2.out.2.2.1⟩)
  have HRes := hid (show tTake c (⟨s0, d0, sq, ak, fl, wi, ms, data⟩ : TSeg) = { c3 with inn := tFlow (tNote c.inn (⟨s0, d0, sq, ak, fl, wi, ms, data⟩ : TSeg)), state := if (tFlow (tNote c.inn (⟨s0, d0, sq, ak, fl, wi, ms, data⟩ : TSeg))).done = true ∧ st1 = 2 then 3 else st1, acks := c.acks || decide (0 < n) || tBit fl 1 } by
    rw [HRes.out, ← hc3]
    unfold tTakeB
    rw [Hc2.out.2.1, Hla.out, Hc2.out.1, Hc2.out.2.2.1]
    rw [show ((⟨s0, d0, sq, ak, fl, wi, ms, data⟩ : TSeg)).data.length = n from Hdl.out])
  go_upto_if 114 with fail
  go_cut [] from 114 to 119 (fun wx => RConn wx base g c3 qm F ∧ Frame F w wx ∧ Blk wx w.heap.size 51 [.int .i64 s0, .int .i64 d0, .int .u32 (sq : Int), .int .u32 (ak : Int), .int .i64 fl, .int .i64 wi, .int .i64 ms, .slice A n cap] ∧ Bs wx (.slice A n cap) data)
  case first =>
    cases la with
    | true =>
      have Hc := hid (show c2 = c3 by rw [← hc3, if_pos rfl])
      clear hc3
      go_wp2_with fail
      go_meet
      case rel => exact ⟨by rw [← Hc.out]; exact R5.out, FR5.out, BX5.out, D5.out⟩
    | false =>
      have Hc := hid (show { c2 with out := { c2.out with w := wi } } = c3 by rw [← hc3, if_neg (by simp)])
      clear hc3
      have F6 := R5.out.fset 11 (.int .i64 wi)
      have F6 := hid F6
      go_wp2_with fail
      go_meet
      case rel => exact ⟨by rw [← Hc.out]; exact R5.out.w_ wi, FR5.out.trans F6.out (fun _ _ h => h), F6.out.blk BX5.out (fun e => HFn.out _ e rfl), bs_frame D5.out F6.out (by rw [Hdl.out]; exact Hf.out)⟩
  case rest =>
  obtain ⟨hR, hfr, hbx, hD⟩ := hcut
  generalize wc = w7 at *
  have R6 := hid hR
  have FR6 := hid hfr
  have BX6 := hid hbx
  have D6 := hid hD
  clear hR hfr hbx hD b5 a11 z11 R5 FR5 BX5 D5 hc3
  obtain ⟨c4, hc4⟩ : ∃ x : TConn, { c3 with inn := tFlow (tNote c.inn (⟨s0, d0, sq, ak, fl, wi, ms, data⟩ : TSeg)), state := if (tFlow (tNote c.inn (⟨s0, d0, sq, ak, fl, wi, ms, data⟩ : TSeg))).done = true ∧ st1 = 2 then 3 else st1 } = x := ⟨_, rfl⟩
  have Hc4 := hid (show c4.acks = c.acks by rw [← hc4]; exact Hc3.out.2.2)
  have HRes := hid (show tTake c (⟨s0, d0, sq, ak, fl, wi, ms, data⟩ : TSeg) = { c4 with acks := c.acks || decide (0 < n) || tBit fl 1 } by rw [HRes.out, ← hc4])
  go_upto_region 21 with fail
  go_cut [] from 120 to 122 (fun wx => ∃ F1, RConn wx base g c4 (qm + n) F1 ∧ Frame F w wx ∧ (∀ z, F1 z → F z ∨ w.heap.size ≤ z ∧ z ≠ w.heap.size) ∧ Blk wx w.heap.size 51 [.int .i64 s0, .int .i64 d0, .int .u32 (sq : Int), .int .u32 (ak : Int), .int .i64 fl, .int .i64 wi, .int .i64 ms, .slice A n cap])
  case first =>
    by_cases h2 : st1 = 2
    · have hdn : c3.inn.done = false := by
        rw [Hc3.out.2.1]
        by_cases h1 : c.state = 1
        · exact (Hb.out.s1 h1).2.2.2.2.1
        · refine Hb.out.done ?_
          have := Hst1.out
          rw [Hst.out]
          rw [Hst.out] at h1
          rw [if_neg h1] at this
          omega
      have HN := rnote_conn base g c3 qm F (⟨s0, d0, sq, ak, fl, wi, ms, data⟩ : TSeg) A n cap w7 R6.out (by rw [Hc3.out.2.1]; exact Hi.out) (by rw [Hc3.out.1]; exact h2) hdn hs D6.out hl hm Hf.out
      unfold RNotePost at HN
      rw [Hc3.out.2.1, show ((⟨s0, d0, sq, ak, fl, wi, ms, data⟩ : TSeg)).data.length = n from Hdl.out] at HN
      have HN := hid HN
      have Hc := hid (show { c3 with inn := tFlow (tNote c.inn (⟨s0, d0, sq, ak, fl, wi, ms, data⟩ : TSeg)), state := if (tFlow (tNote c.inn (⟨s0, d0, sq, ak, fl, wi, ms, data⟩ : TSeg))).done = true then 3 else 2 } = c4 by
        rw [← hc4, h2]
        by_cases hd : (tFlow (tNote c.inn (⟨s0, d0, sq, ak, fl, wi, ms, data⟩ : TSeg))).done = true
        · rw [if_pos hd, if_pos ⟨hd, rfl⟩]
        · rw [if_neg hd, if_neg (fun e => hd e.1)])
      clear hc4 hdn h2
      go_wp2_with (first
        | ((with_reducible show wpList _ _ _ (Oper.mk (some 121) _ _ _ _ _ :: _) _ _); refine wpList_loadBlk rfl _ _ rfl _ rfl _ _ _ BX6.out Try.underlying51 rseginfo ?_)
        | (go_at_call 65; refine HN.out.mono ?_; rintro e w8 ⟨⟨u8, rfl⟩, F1, hR, hf8, hn8⟩; have R8 := hid hR; have F8 := hid hf8; have N8 := hid hn8; clear hR hf8 hn8)
        | fail)
      go_meet
      case rel =>
        refine ⟨F1, by rw [← Hc.out]; exact R8.out, FR6.out.trans F8.out (fun _ _ h => h), fun z hz => ?_, F8.out.blk BX6.out (fun e => HFn.out _ e rfl)⟩
        rcases N8.out z hz with r1 | r1
        · exact .inl r1
        · have := BX6.out.lt
          exact .inr ⟨by omega, by omega⟩
    · have hdn : c3.inn.done = true := by
        rw [Hc3.out.2.1]
        refine Hb.out.don2 ?_
        have := Hst1.out
        rw [Hst.out]
        split at this <;> omega
      have hRn := R6.out.noted hdn (by rw [Hc3.out.2.1]; exact Hb.out.told (by rw [← Hc3.out.2.1]; exact hdn)) (⟨s0, d0, sq, ak, fl, wi, ms, data⟩ : TSeg)
      rw [Hc3.out.2.1] at hRn
      have HRn := hid hRn
      have HN := hid (rnote_skip g st1 (⟨s0, d0, sq, ak, fl, wi, ms, data⟩ : TSeg) A n cap w7 h2 (R6.out.c2 Hc3.out.1))
      have Hc := hid (show { c3 with inn := tFlow (tNote c.inn (⟨s0, d0, sq, ak, fl, wi, ms, data⟩ : TSeg)) } = c4 by
        rw [← hc4, if_neg (fun e => h2 e.2), ← Hc3.out.1])
      clear hc4 hdn h2 hRn
      go_wp2_with (first
        | ((with_reducible show wpList _ _ _ (Oper.mk (some 121) _ _ _ _ _ :: _) _ _); refine wpList_loadBlk rfl _ _ rfl _ rfl _ _ _ BX6.out Try.underlying51 rseginfo ?_)
        | (go_at_call 65; refine HN.out.mono ?_; rintro e w8 ⟨⟨u8, rfl⟩, hb8⟩; have Hb8 := hid hb8; clear hb8)
        | fail)
      go_meet
      case rel =>
        exact ⟨F, by rw [← Hc.out]; exact (HRn.out.keep Hb8.out).more (Nat.le_add_right _ _), FR6.out.trans (Below.frameF Hb8.out F) (fun _ _ h => h), fun z hz => .inl hz, BX6.out.keep Hb8.out⟩
  case rest =>
  obtain ⟨F1, hR, hfr, hn, hbx⟩ := hcut
  generalize wc = w8 at *
  have R8 := hid hR
  have FR8 := hid hfr
  have N8 := hid hn
  have b7 : w8.cell? ⟨w.heap.size, 7, none⟩ = some (.slice A n cap) := hbx.cell 7
  have b4 : w8.cell? ⟨w.heap.size, 4, none⟩ = some (.int .i64 fl) := hbx.cell 4
  obtain ⟨v18, a18⟩ := R8.out.has 18 (by decide)
  have z18 := R8.out.fz 18
  have HFF := hid (show ∀ z, z < w.heap.size → F1 z → F z from fun z hz h => by
    rcases hn z h with r1 | r1
    · exact r1
    · omega)
  have HFo := hid (show ∀ z, F1 z → F z ∨ w.heap.size ≤ z from fun z hz => by
    rcases hn z hz with r1 | r1
    · exact .inl r1
    · exact .inr r1.1)
  obtain ⟨f1, hf1⟩ : ∃ b, (bits .and .i64 fl 1 != 0) = b := ⟨_, rfl⟩
  have HRes := hid (show tTake c (⟨s0, d0, sq, ak, fl, wi, ms, data⟩ : TSeg) = { c4 with acks := c.acks || decide (0 < n) || f1 } by rw [HRes.out]; unfold tBit; rw [hf1])
  clear hR hfr hn hbx R6 FR6 BX6 D6 hc4
  by_cases hn0 : 0 < n
  · have hnI : (n : Int) > 0 := by omega
    go_wp2_with fail
    refine end_ret rfl rfl ?_
    rw [HRes.out]
    refine ⟨⟨_, rfl⟩, F1, ?_, FR8.out.trans (R8.out.fset 18 _) HFF.out, HFo.out⟩
    have h := R8.out.owe_ true
    rw [show ((⟨s0, d0, sq, ak, fl, wi, ms, data⟩ : TSeg)).data.length = n from Hdl.out, decide_eq_true hn0, Bool.or_true, Bool.true_or]
    exact h
  · have hnI : ¬ (n : Int) > 0 := by omega
    cases f1 with
    | true =>
      go_wp2_with fail
      refine end_ret rfl rfl ?_
      rw [HRes.out]
      refine ⟨⟨_, rfl⟩, F1, ?_, FR8.out.trans (R8.out.fset 18 _) HFF.out, HFo.out⟩
      have h := R8.out.owe_ true
      rw [show ((⟨s0, d0, sq, ak, fl, wi, ms, data⟩ : TSeg)).data.length = n from Hdl.out, Bool.or_true]
      exact h
    | false =>
      go_wp2_with fail
      refine end_ret rfl rfl ?_
      rw [HRes.out]
      refine ⟨⟨_, rfl⟩, F1, ?_, FR8.out, HFo.out⟩
      have h := R8.out
      rw [show ((⟨s0, d0, sq, ak, fl, wi, ms, data⟩ : TSeg)).data.length = n from Hdl.out, decide_eq_false hn0, Bool.or_false, Bool.or_false, ← Hc4.out]
      exact h
end Go.Proofs.Ytahlcjkcdgahkaa
