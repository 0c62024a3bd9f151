/- The walk of IpBounds. -/
import Derived.Test.YtbjiicnagfeciaaPtJ
import Derived.Test.YtbjiicnagfeciaaPtL
import Derived.Test.YtbjiicnagfeciaaIpWi
import Derived.Test.YtbjiicnagfeciaaIpL
namespace Go.Proofs.Ytbjiicnagfeciaa
open Go Go.RowKit
attribute [local go_sem ↓] Go.wp_at_zero Go.wp_at_succ
set_option maxRecDepth 100000

theorem intinfo : (Try.prog.info? 3).map (fun i => (i.zero, i.size, i.bytes)) = some (some (.int .i64 0), 1, 8) := by kernel_rfl
theorem intok : ElemOk Try.prog 47 3 (.int .i64 0) 1 8 := by
  obtain ⟨i, hi, hz, hs, hb⟩ := info_parts intinfo
  exact ⟨Try.underlying47, ⟨i, hi, hz, hs, hb⟩, rfl, by decide, by decide⟩
theorem cutI_from (A : Option Addr) (n cap : Nat) (lo : Int) (l k : Nat) (h1 : lo = l) (h2 : n = l + k) (h3 : n ≤ cap) (w : World) :
    (Instr.sliceAt 47 (.slice A n cap) (some (.int .i64 lo)) none none).run Try.prog w = .ok (.slice (cutA A cap l 1) k (cap - l)) w := by
  obtain ⟨i, hi, _, hs, _⟩ := info_parts intinfo
  have := run_cut_from (P := Try.prog) (T := 47) Try.underlying47 hi A n cap .i64 lo l k h1 h2 h3 w
  rwa [hs] at this
def iV (x : Int) : Value := .int .i64 x
/-- the numbers that the walk holds beside: a row of its own -/
def Side (w0 w : World) (F : Nat → Prop) (v : Value) : Prop := ∃ row : List Int, row.length ≤ 4 ∧ RowAtS w w0.heap.size 3 1 v row.length (row.map iV) ∧ ∀ k, v.ownBlock = some k → ¬ F k

set_option maxHeartbeats 4000000 in
theorem ipBounds_walk (v : Value) (ids : List Int) (ticks : Int) (w : World) (h : RowN w 1 v ids.length (ids.map iV)) :
    Calls Try.prog 9 #[v, .int .i64 ticks] w fun e w' => e = .returned (.bool true) ∧ Below w.heap.size w w' := by
  obtain ⟨_, A, cap, rfl, hc1, hc2, hcA⟩ := (show RowN w 1 v ids.length (ids.map iV) from h)
  have Hids := hid h
  have hc3 : cap ≤ 9223372036854775807 := by simp only [maxLen] at hc2; omega
  clear h hc2 hcA
  go_enter Try.func9, Try.ntmps9
  go_wp2_with (first
    | ((go_at_call 10; refine (known_any _).mono ?_; rintro e w' ⟨rfl, hb1⟩); have Hb1 := hid hb1; clear hb1)
    | (go_at_call 20; refine (pnew_any _).mono ?_; rintro e w2 ⟨g, F0, rfl, hinv, hb2⟩; have Hinv := hid hinv; have Hb2 := hid hb2; clear hinv hb2)
    | fail)
  have hmk := run_make8 u8ok .i64 .i64 8 8 rfl (by omega)
  have hw1 : w.heap.size ≤ w'.heap.size := Hb1.out.size
  have I0 := hid (Hinv.out.mono hw1 (Nat.le_refl 0))
  have B0 := hid (Hb1.out.trans (Hb2.out.mono hw1))
  clear Hinv Hb1 Hb2 hw1
  go_loopg [6, 7] 60 (fun gk s6 s7 wr => ∃ (i : Nat) (l : List Wt) (F : Nat → Prop), i ≤ 60 ∧ 60 - i ≤ gk ∧ i ≤ ids.length ∧ s7 = .int .i64 (i : Int) ∧ Side w wr F s6 ∧ PtInv wr w.heap.size g l i F ∧ Bnd l i ∧ Below w.heap.size w wr)
  case atStart => exact ⟨0, [], F0, by omega, by omega, Nat.zero_le _, rfl, ⟨[], by simp, RowAtS.nil _ _ _ _, fun k hk => by simp [Value.ownBlock] at hk⟩, I0.out, bnd_nil, B0.out⟩
  case round =>
    obtain ⟨i, l, F, hi, hgk, hil, rfl, hside, hinv, hbnd, hbel⟩ := hrel
    by_cases hgo : i < ids.length ∧ i < 60
    · obtain ⟨hi1, hi2⟩ := hgo
      have hiI : (i : Int) < (ids.length : Int) := by omega
      have hiJ : (i : Int) < 60 := by omega
      obtain ⟨gA, oA, rfl, hcell⟩ : ∃ gA oA, A = some ⟨gA, oA, none⟩ ∧ wr.cell? ⟨gA, oA + i, none⟩ = some (.int .i64 ids[i]) := by
        obtain ⟨_, A', cap', hv, _, _, hc⟩ := Hids.out.below hbel
        injection hv with e1 _ e3
        subst e1; subst e3
        rcases hc with h0 | ⟨gA, oA, rfl, hc⟩
        · omega
        · exact ⟨gA, oA, rfl, hc i _ (by simp [hi1, iV])⟩
      generalize ids[i] = idv at hcell
      obtain ⟨row, hrl, hrow, hrF⟩ := hside
      obtain ⟨_, R, capR, rfl, hcR1, hcR2, hcR⟩ := (show RowN wr 1 _ row.length (row.map iV) from hrow.rowN)
      have hcR3 : capR ≤ 9223372036854775807 := by simp only [maxLen] at hcR2; omega
      have h8 : IntKind.i64.wrap (8 * (i : Int)) = 8 * (i : Int) := IntWalk.i64_in _ (by omega)
      have hj1 : IntKind.i64.wrap ((i : Int) + 1) = ((i + 1 : Nat) : Int) := by rw [IntWalk.i64_in _ (by omega)]; omega
      have HW := hid (within_any idv 9 wr (by omega) (by omega))
      have Hrow := hid hrow
      have HrF := hid hrF
      have Hinv := hid hinv
      have Hbnd := hid hbnd
      have Hbel := hid hbel
      have hadd : ∀ (nn : Nat), nn < 9 → ∀ (wx : World), wx = wr.alloc (.cells (zero8 8) 5) → Calls Try.prog 21 #[.pointer (some ⟨g, 0, none⟩), .agg #[.int .u32 0, .int .u32 0, .int .i64 0, .int .i64 (nn : Int), .int .i64 (8 * (i : Int)), .bool true, .bool false, .int .i64 0, .slice (some ⟨wr.heap.size, 0, none⟩) 8 8]] wx fun e w4 =>
          ∃ (q : Pk) (v4 : Value) (l4 : List Wt) (F4 : Nat → Prop), e = .returned (.tuple #[.agg (pkCells q v4).toArray, .int .i64 19]) ∧ PtInv w4 w.heap.size g l4 (i + 1) F4 ∧ Bnd l4 (i + 1) ∧ Frame F wr w4 ∧ (∀ k, F4 k → F k ∨ wr.heap.size ≤ k) ∧ OwnBs w4 wx.heap.size 5 v4 q.body := by
        rintro nn hnn wx rfl
        have hb8 : Blk (wr.alloc (.cells (zero8 8) 5)) wr.heap.size 5 ((List.replicate 8 (0 : UInt8)).map u8v) := Blk.new wr 5 (zero8 8)
        have hal := below_alloc wr (.cells (zero8 8) 5)
        have hst := bnd_step hbnd hi2 (nn : Int)
        have hkey : (bndPk (nn : Int) i).key.Ok := by
          refine ⟨?_, ?_, ?_, ?_, ?_, ?_⟩ <;> simp [bndPk, Pk.key] <;> omega
        have := add_any w.heap.size g l i F (.slice (some ⟨wr.heap.size, 0, none⟩) 8 8) (bndPk nn i) _ (hinv.keep hal) (by omega) (own_of_blk (base := wr.heap.size) hb8 (Nat.le_refl _) rfl (by simp [maxLen])).bs (by simp [bndPk]) hkey
        refine Calls.mono (show Calls Try.prog 21 #[.pointer (some ⟨g, 0, none⟩), .agg #[.int .u32 0, .int .u32 0, .int .i64 0, .int .i64 (nn : Int), .int .i64 (8 * (i : Int)), .bool true, .bool false, .int .i64 0, .slice (some ⟨wr.heap.size, 0, none⟩) 8 8]] _ _ from this) ?_
        rintro e w4 ⟨v4, rfl, hown, F4, hinv4, hfr4, hF4⟩
        rw [hst.1]
        exact ⟨_, v4, _, F4, rfl, hinv4, hst.2, (Below.frameF hal F).trans hfr4 (fun _ _ h => h), fun k hk => by rcases hF4 k hk with q | q; exact .inl q; exact .inr (by simp at q; omega), hown⟩
      have HAdd := hid hadd
      clear hrow hrF hinv hbnd hbel hcR hcR2 hadd
      go_wp2_with (first
        | (go_at_call 19; refine HW.out.mono ?_; rintro e wq ⟨nn, hnn, rfl, rfl⟩)
        | (go_at_call 21; with_reducible refine (HAdd.out nn hnn _ rfl).mono ?_; rintro e w4 ⟨q, v4, l4, F4, rfl, hinv4, hbnd4, hfr4, hF4, hbs4⟩; obtain ⟨A4, c4, rfl⟩ := slice_len hbs4.bs rfl; obtain ⟨s4, d4, pr4, id4, of4, mo4, wh4, tt4, bd4⟩ := q; dsimp only [pkCells]; have Hinv4 := hid hinv4; have Hbnd4 := hid hbnd4; have Hfr4 := hid hfr4; have HF4 := hid hF4; clear hinv4 hbnd4 hfr4 hF4 hbs4)
        | fail)
      have hrow4 := (Hrow.out.same (fun k hk => Hfr4.out.block k (Hrow.out.lt hk).2 (HrF.out k hk))).keep (below_alloc w4 (.cells #[.int .u32 (s4 : Int), .int .u32 (d4 : Int), .int .i64 pr4, .int .i64 id4, .int .i64 of4, .bool mo4, .bool wh4, .int .i64 tt4, .slice A4 bd4.length c4] 25))
      have hrF4 : ∀ k, (Value.slice R row.length capR).ownBlock = some k → ¬ F4 k := fun k hk q => by
        rcases HF4.out k q with q | q
        · exact HrF.out k hk q
        · have := (Hrow.out.lt hk).2; omega
      have hbel4 : Below w.heap.size w (w4.alloc (.cells #[.int .u32 (s4 : Int), .int .u32 (d4 : Int), .int .i64 pr4, .int .i64 id4, .int .i64 of4, .bool mo4, .bool wh4, .int .i64 tt4, .slice A4 bd4.length c4] 25)) := (Hbel.out.trans (Frame.below (Hfr4.out) (fun k hk => (Hinv.out.lt k hk).1) Hbel.out.size)).alloc (by have := Hbel.out.size; have := Hfr4.out.size; omega) _
      have Hrow4 := hid hrow4
      have HrF4 := hid hrF4
      have Hbel4 := hid hbel4
      have Hinv5 := hid (Hinv4.out.keep (below_alloc w4 (.cells #[.int .u32 (s4 : Int), .int .u32 (d4 : Int), .int .i64 pr4, .int .i64 id4, .int .i64 of4, .bool mo4, .bool wh4, .int .i64 tt4, .slice A4 bd4.length c4] 25)))
      clear hrow4 hrF4 hbel4 HAdd hcell
      generalize w4.alloc (.cells #[.int .u32 (s4 : Int), .int .u32 (d4 : Int), .int .i64 pr4, .int .i64 id4, .int .i64 of4, .bool mo4, .bool wh4, .int .i64 tt4, .slice A4 bd4.length c4] 25) = w5 at *
      go_loopg [11, 12] row.length (fun gk s11 s12 wr2 => ∃ (kk : Nat) (bb : Bool), kk ≤ row.length ∧ row.length - kk ≤ gk ∧ s11 = .bool bb ∧ s12 = .int .i64 (kk : Int) ∧ wr2 = w5)
      case atStart => exact ⟨0, false, Nat.zero_le _, by omega, rfl, rfl, rfl⟩
      case round =>
        obtain ⟨kk, bb, hkk, hgk2, rfl, rfl, rfl⟩ := hrel
        by_cases hkl : kk < row.length
        · have hkI : (kk : Int) < (row.length : Int) := by omega
          have hk1 : IntKind.i64.wrap ((kk : Int) + 1) = ((kk + 1 : Nat) : Int) := by rw [IntWalk.i64_in _ (by omega)]; omega
          obtain ⟨gr, orr, rfl, hcr⟩ : ∃ gr orr, R = some ⟨gr, orr, none⟩ ∧ wr.cell? ⟨gr, orr + kk, none⟩ = some (.int .i64 row[kk]) := by
            obtain ⟨_, A', cap', hv, _, _, hc⟩ := Hrow4.out.rowN
            injection hv with e1 _ e3
            subst e1; subst e3
            rcases hc with h0 | ⟨gA, oA, rfl, hc⟩
            · omega
            · exact ⟨gA, oA, rfl, hc kk _ (by simp [hkl, iV])⟩
          generalize row[kk] = xv at hcr
          obtain ⟨eb, heb⟩ : ∃ eb, (xv == (nn : Int)) = eb := ⟨_, rfl⟩
          cases bb
          all_goals
            go_wp2_with fail
            go_roundg (row.length - (kk + 1))
            case measure => omega
            case rel => exact ⟨kk + 1, _, by omega, Nat.le_refl _, rfl, rfl, rfl⟩
        · obtain rfl : kk = row.length := by omega
          have hkI : ¬ (row.length : Int) < (row.length : Int) := by omega
          have hl4 : l4.length ≤ 4 := Hinv5.out.ok.len
          have hl4I : ¬ (l4.length : Int) > 4 := by omega
          cases bb with
          | true =>
            have hr4I : ¬ (row.length : Int) > 4 := by omega
            go_wp2_with (first
              | (go_at_call 29; refine (waits_any _ _ _ _ _ _ Hinv5.out).mono ?_; rintro e w7 ⟨rfl, hb7⟩; have Hb7 := hid hb7; clear hb7)
              | fail)
            go_roundg (60 - (i + 1))
            case measure => omega
            case rel => exact ⟨i + 1, l4, F4, by omega, Nat.le_refl _, by omega, rfl, ⟨row, hrl, Hrow4.out.keep Hb7.out, HrF4.out⟩, Hinv5.out.keep Hb7.out, Hbnd4.out, Hbel4.out.trans (Hb7.out.mono Hbel4.out.size)⟩
          | false =>
            have hlit := below_alloc wr (.cells #[.int .i64 (nn : Int)] 3)
            have Hlit := hid hlit
            have Hrow6 := hid (Hrow4.out.keep hlit)
            clear hlit
            by_cases h4 : row.length = 4
            · have hr4I : ((row.length : Int) + 1) > 4 := by omega
              have H4 := hid h4
              clear h4
              go_wp2_with (first
                | ((with_reducible show wpList _ _ _ (Oper.mk (some 66) _ _ _ _ _ :: _) _ _); refine wpList_app_atS rfl _ _ 47 rfl w.heap.size 3 (.int .i64 0) 1 8 intok _ row.length (row.map iV) rfl Hrow6.out (.slice (some ⟨wr.heap.size, 0, none⟩) 1 1) 1 [.int .i64 (nn : Int)] rfl (rowS_lit 1 #[.int .i64 (nn : Int)] 1 _ rfl rfl (by simp [maxLen])) (by simp [Value.oneCell']) (by decide) (by omega) (by simp only [maxLen]; omega) (by have := Hbel4.out.size; simp; omega) ?_; intro v6 w6 hr6 hg6 hv6; obtain ⟨_, A6, cap6, rfl, hq1, _, _⟩ := hr6.rowN; have hinv6 := (Hinv5.out.keep Hlit.out).frame (frame_grown hg6 (F := fun k => ¬ F4 k) (fun k hk => HrF4.out k hk)) (fun k hk q => q hk); have hbel6 : Below w.heap.size w w6 := Below.grown (Hbel4.out.trans (Hlit.out.mono Hbel4.out.size)) hg6 (Nat.le_trans Hbel4.out.size Hlit.out.size) (fun k hk => (Hrow6.out.lt hk).1); have hrF6 : ∀ k, (Value.slice A6 (row.length + 1) cap6).ownBlock = some k → ¬ F4 k := (fun k hk q => (by rcases hv6 with e | e; exact HrF4.out k (e.symm.trans hk) q; have hk2 := e.symm.trans hk; injection hk2 with hk2; have := (Hinv5.out.lt k q).2; simp at hk2; omega)); have cut1 := cutI_from A6 (row.length + 1) cap6 1 1 row.length rfl (by omega) hq1; have Hr6 := hid hr6; have Hinv6 := hid hinv6; have Hbel6 := hid hbel6; have HrF6 := hid hrF6; clear hr6 hg6 hv6 hinv6 hbel6 hrF6 hq1)
                | (go_at_call 29; refine (waits_any _ _ _ _ _ _ Hinv6.out).mono ?_; rintro e w7 ⟨rfl, hb7⟩; have Hb7 := hid hb7; clear hb7)
                | fail)
              go_roundg (60 - (i + 1))
              case measure => omega
              case rel =>
                refine ⟨i + 1, l4, F4, by omega, Nat.le_refl _, by omega, rfl, ⟨(row ++ [(nn : Int)]).drop 1, by have := H4.out; simp; omega, ?_, ?_⟩, Hinv6.out.keep Hb7.out, Hbnd4.out, Hbel6.out.trans (Hb7.out.mono Hbel6.out.size)⟩
                · have := (Hr6.out.from_ (l := 1) (by omega)).keep Hb7.out
                  have e1 : ((row ++ [(nn : Int)]).drop 1).length = row.length := by simp
                  rw [e1, List.map_drop, List.map_append]
                  exact this
                · intro k hk
                  refine HrF6.out k ?_
                  rw [← hk]
                  unfold cutA
                  split <;> cases A6 <;> rfl
            · have hr4I : ¬ ((row.length : Int) + 1) > 4 := by omega
              have H4 := hid h4
              clear h4
              go_wp2_with (first
                | ((with_reducible show wpList _ _ _ (Oper.mk (some 66) _ _ _ _ _ :: _) _ _); refine wpList_app_atS rfl _ _ 47 rfl w.heap.size 3 (.int .i64 0) 1 8 intok _ row.length (row.map iV) rfl Hrow6.out (.slice (some ⟨wr.heap.size, 0, none⟩) 1 1) 1 [.int .i64 (nn : Int)] rfl (rowS_lit 1 #[.int .i64 (nn : Int)] 1 _ rfl rfl (by simp [maxLen])) (by simp [Value.oneCell']) (by decide) (by omega) (by simp only [maxLen]; omega) (by have := Hbel4.out.size; simp; omega) ?_; intro v6 w6 hr6 hg6 hv6; obtain ⟨_, A6, cap6, rfl, hq1, _, _⟩ := hr6.rowN; have hinv6 := (Hinv5.out.keep Hlit.out).frame (frame_grown hg6 (F := fun k => ¬ F4 k) (fun k hk => HrF4.out k hk)) (fun k hk q => q hk); have hbel6 : Below w.heap.size w w6 := Below.grown (Hbel4.out.trans (Hlit.out.mono Hbel4.out.size)) hg6 (Nat.le_trans Hbel4.out.size Hlit.out.size) (fun k hk => (Hrow6.out.lt hk).1); have hrF6 : ∀ k, (Value.slice A6 (row.length + 1) cap6).ownBlock = some k → ¬ F4 k := (fun k hk q => (by rcases hv6 with e | e; exact HrF4.out k (e.symm.trans hk) q; have hk2 := e.symm.trans hk; injection hk2 with hk2; have := (Hinv5.out.lt k q).2; simp at hk2; omega)); have cut1 := cutI_from A6 (row.length + 1) cap6 1 1 row.length rfl (by omega) hq1; have Hr6 := hid hr6; have Hinv6 := hid hinv6; have Hbel6 := hid hbel6; have HrF6 := hid hrF6; clear hr6 hg6 hv6 hinv6 hbel6 hrF6 hq1)
                | (go_at_call 29; refine (waits_any _ _ _ _ _ _ Hinv6.out).mono ?_; rintro e w7 ⟨rfl, hb7⟩; have Hb7 := hid hb7; clear hb7)
                | fail)
              go_roundg (60 - (i + 1))
              case measure => omega
              case rel =>
                refine ⟨i + 1, l4, F4, by omega, Nat.le_refl _, by omega, rfl, ⟨row ++ [(nn : Int)], by have := H4.out; simp; omega, ?_, HrF6.out⟩, Hinv6.out.keep Hb7.out, Hbnd4.out, Hbel6.out.trans (Hb7.out.mono Hbel6.out.size)⟩
                have := Hr6.out.keep Hb7.out
                have e1 : (row ++ [(nn : Int)]).length = row.length + 1 := by simp
                rw [e1, List.map_append]
                exact this
    · have hi3 : ¬ (i : Int) < (ids.length : Int) ∨ (i : Int) < (ids.length : Int) ∧ ¬ (i : Int) < 60 := by omega
      have Hinv := hid hinv
      have Hbel := hid hbel
      have hl4 : l.length ≤ 4 := hinv.ok.len
      have HW := hid (fun wx => within_any ticks 4000 wx (by omega) (by omega))
      have HT := hid (fun (k : Nat) (hk : k < 4000) (wx : World) (hb : Below wr.heap.size wr wx) => tick_any w.heap.size g l i F (k : Int) wx (hinv.keep hb) (fun x hx => by have := (hbnd x hx).2.1; omega) (by omega) (by omega))
      have Hk := hid (fun (k : Nat) (hk : k < 4000) => show 3000 ≤ k ∧ (pTick l (k : Int)).2 = (l.length : Int) ∧ (pTick l (k : Int)).1.length = 0 ∨ k < 3000 ∧ (pTick l (k : Int)).2 = 0 ∧ (pTick l (k : Int)).1.length = l.length by
        rw [bnd_tick hbnd k hk]
        by_cases h1 : k < 3000
        · right
          rw [if_pos h1]
          split <;> simp [h1]
        · left
          rw [if_neg h1]
          simp
          omega)
      clear hinv hbel hbnd hside hgo
      rcases hi3 with hi3 | ⟨hi3, hi4⟩
      all_goals
        go_upto_region 25 with (first
          | (go_at_call 29; refine (waits_any _ _ _ _ _ _ Hinv.out).mono ?_; rintro e w7 ⟨rfl, hb7⟩; have Hb7 := hid hb7; clear hb7)
          | (go_at_call 19; refine (HW.out _).mono ?_; rintro e w8 ⟨k, hk, rfl, rfl⟩)
          | fail)
        have hTk := Hk.out k hk
        have HTk := hid (HT.out k hk _ Hb7.out)
        obtain ⟨gn, hgn⟩ : ∃ z, (pTick l (k : Int)).2 = z := ⟨_, rfl⟩
        obtain ⟨l9, hl9⟩ : ∃ z, (pTick l (k : Int)).1 = z := ⟨_, rfl⟩
        unfold TickPost at HTk
        rw [hgn, hl9] at hTk HTk
        rcases hTk with ⟨q1, rfl, q3⟩ | ⟨q1, rfl, q3⟩
        · have q4 : (k : Int) ≥ 3000 := by omega
          have q5 : ((l9.length : Int) == 0) = true := by rw [q3]; rfl
          clear hgn hl9 q3
          go_wp2_with (first
            | (go_at_call 26; refine HTk.out.mono ?_; rintro e w9 ⟨rfl, hinv9, hfr9⟩; have Hinv9 := hid hinv9; have Hfr9 := hid hfr9; clear hinv9 hfr9)
            | (go_at_call 29; refine (waits_any _ _ _ _ _ _ Hinv9.out).mono ?_; rintro e w10 ⟨rfl, hb10⟩; have Hb10 := hid hb10; clear hb10)
            | fail)
          go_ret
          exact ⟨rfl, (Frame.below ((Below.frameF (Hbel.out.mono (Nat.le_refl _)) F).trans ((Below.frameF Hb7.out F).trans (Hfr9.out.trans (Below.frameF Hb10.out F) (fun _ _ h => h)) (fun _ _ h => h)) (fun _ _ h => h)) (fun k hk => (Hinv.out.lt k hk).1) (Nat.le_refl _))⟩
        · have q4 : ¬ (k : Int) ≥ 3000 := by omega
          by_cases h0 : l.length = 0
          · have q5 : ((l9.length : Int) == 0) = true := by rw [q3, h0]; rfl
            have q6 : ((l.length : Int) == 0) = true := by rw [h0]; rfl
            have q7 : ((0 : Int) == (l.length : Int)) = true := by rw [h0]; rfl
            clear hgn hl9 q3 h0
            go_wp2_with (first
              | (go_at_call 26; refine HTk.out.mono ?_; rintro e w9 ⟨rfl, hinv9, hfr9⟩; have Hinv9 := hid hinv9; have Hfr9 := hid hfr9; clear hinv9 hfr9)
              | (go_at_call 29; refine (waits_any _ _ _ _ _ _ Hinv9.out).mono ?_; rintro e w10 ⟨rfl, hb10⟩; have Hb10 := hid hb10; clear hb10)
              | fail)
            go_ret
            exact ⟨rfl, (Frame.below ((Below.frameF (Hbel.out.mono (Nat.le_refl _)) F).trans ((Below.frameF Hb7.out F).trans (Hfr9.out.trans (Below.frameF Hb10.out F) (fun _ _ h => h)) (fun _ _ h => h)) (fun _ _ h => h)) (fun k hk => (Hinv.out.lt k hk).1) (Nat.le_refl _))⟩
          · have q7 : ((0 : Int) == (l.length : Int)) = false := by simp; omega
            have q8 : ¬ (0 : Int) = (l.length : Int) := by omega
            clear hgn hl9 q3 h0
            go_wp2_with (first
              | (go_at_call 26; refine HTk.out.mono ?_; rintro e w9 ⟨rfl, hinv9, hfr9⟩; have Hinv9 := hid hinv9; have Hfr9 := hid hfr9; clear hinv9 hfr9)
              | fail)
            go_ret
            exact ⟨rfl, Frame.below ((Below.frameF (Hbel.out.mono (Nat.le_refl _)) F).trans ((Below.frameF Hb7.out F).trans Hfr9.out (fun _ _ h => h)) (fun _ _ h => h)) (fun k hk => (Hinv.out.lt k hk).1) (Nat.le_refl _)⟩
end Go.Proofs.Ytbjiicnagfeciaa
