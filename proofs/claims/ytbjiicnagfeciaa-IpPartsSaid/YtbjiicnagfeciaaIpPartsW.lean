/- The walk of IpParts. -/
import Derived.Test.YtbjiicnagfeciaaRPtW
import Derived.Test.YtbjiicnagfeciaaIpL
import Derived.Test.YtbjiicnagfeciaaKept
import Derived.Test.YtbjiicnagfeciaaOwn
import Derived.Deep.CutRange
import Derived.Deep.CutBlock
import Derived.Deep.RegionHeld3
import Derived.Deep.LoopGhost
namespace Go.Proofs.Ytbjiicnagfeciaa
open Go Go.RowKit
attribute [local go_sem ↓] Go.wp_at_zero Go.wp_at_succ
set_option maxRecDepth 100000
set_option linter.unusedSimpArgs false

set_option maxHeartbeats 8000000 in
theorem ipParts_walk (v : Value) (xs : List IStep) (w : World) (hq : RowN w 10 v xs.length (iRow xs)) (hx : ∀ s ∈ xs, s.Ok w) :
    Calls Try.prog 8 #[v] w fun e w' => e = .returned (.bool true) ∧ Below w.heap.size w w' := by
  obtain ⟨_, Aq, capq, rfl, kq1, kq2, kq3⟩ := hq
  have HQ := hid (show RowN w 10 (.slice Aq xs.length capq) xs.length (iRow xs) from ⟨by assumption, Aq, capq, rfl, kq1, kq2, kq3⟩)
  have HX := hid hx
  obtain ⟨xn, hxn⟩ : ∃ n, xs.length = n := ⟨_, rfl⟩
  have Hxn := hid hxn
  rw [hxn] at HQ
  rw [hxn]
  have hcq : capq ≤ 9223372036854775807 := by simp only [maxLen] at kq2; omega
  clear hx kq1 kq2 kq3 hxn
  go_enter Try.func8, Try.ntmps8
  go_upto_region 5 with (first
    | ((go_at_call 10; refine (known_any _).mono ?_; rintro e w' ⟨rfl, hb1⟩); have Hb1 := hid hb1; clear hb1)
    | (go_at_call 20; refine (pnew_any _).mono ?_; rintro e w2 ⟨gP, F, rfl, hA, hb⟩; have HA := hid hA; have Hb2 := hid hb; clear hA hb)
    | fail)
  have S3 := hid (show PtSt2 w (w2.alloc (.cells #[.int .i64 0, .slice none 0 0] 66)) gP w2.heap.size 0 0 0 [] [] F (fun k => k = w2.heap.size) from
    ⟨(HA.out.keep (below_alloc _ _)).mono Hb1.out.size (Nat.le_refl _), ⟨[], .slice none 0 0, rfl, Blk.new w2 66 #[.int .i64 0, .slice none 0 0], RowAtS.nil _ _ _ _, fun x hx => (by cases hx), List.Pairwise.nil, ⟨fun x hx => (by cases hx), List.nodup_nil, by simp⟩, fun x hx => (by cases hx), rfl, fun k hk => (by simp [Value.ownBlock] at hk), fun k hk => by have h1 := Hb1.out.size; have h2 := Hb2.out.size; subst hk; simp; omega⟩, fun k hk q => by have := (HA.out.lt k hk).2; omega,
      (Hb1.out.trans (Hb2.out.mono Hb1.out.size)).trans ((below_alloc w2 _).mono (Nat.le_trans Hb1.out.size Hb2.out.size))⟩)
  clear HA Hb1 Hb2
  generalize w2.alloc (.cells #[.int .i64 0, .slice none 0 0] 66) = w3 at *
  generalize w2.heap.size = gX at *
  go_upto_region 8 with fail
  go_loopg [5] 60 (fun gk s5 wr => ∃ (k m : Nat) (clock : Int) (l : List Wt) (F FX : Nat → Prop), k ≤ 60 ∧ 60 - k ≤ gk ∧ s5 = .int .i64 (k : Int) ∧ m ≤ k ∧ (0 ≤ clock ∧ clock ≤ k * 1099511627776) ∧ Hid (SndL l) ∧ PtSt2 w wr gP gX clock m m l l F FX)
  case atStart => exact ⟨0, 0, 0, [], _, _, by omega, by omega, rfl, by omega, by omega, hid sndL_nil, S3.out⟩
  case round =>
    obtain ⟨k, m, clock, l, F, FX, hk60, hgk, rfl, hm, hclk, HL, hS⟩ := hrel
    clear S3
    have HS := hid hS
    have Hm := hid hm
    have Hclk := hid hclk
    by_cases hkl : k < xn ∧ k < 60
    case neg =>
      have t1 : (k : Int) < (xn : Int) ∧ ¬ (k : Int) < 60 ∨ ¬ (k : Int) < (xn : Int) := by omega
      clear hS hm hclk
      rcases t1 with ⟨t1, t2⟩ | t1
      · go_wp2_with fail
        go_ret
        exact ⟨rfl, HS.out.bel⟩
      · go_wp2_with fail
        go_ret
        exact ⟨rfl, HS.out.bel⟩
    case pos =>
      obtain ⟨hkl1, hkl2⟩ := hkl
      have t1 : (k : Int) < (xn : Int) := by omega
      have t2 : (k : Int) < 60 := by omega
      have hk1 : IntKind.i64.wrap ((k : Int) + 1) = ((k + 1 : Nat) : Int) := by rw [IntWalk.i64_in _ (by omega)]; omega
      obtain ⟨_, A', cap', hv', _, _, hA⟩ := HQ.out.below hS.bel
      injection hv' with e1 _ e2
      subst e1; subst e2
      obtain ⟨gb, ob, rfl, hcell⟩ := hA.resolve_left (by omega)
      have hkx : k < xs.length := by rw [Hxn.out]; exact hkl1
      have hcx := fun f (hf : f < 10) y (hy : xs[k].cells[f]? = some y) => hcell (k * 10 + f) y ((iRow_at xs k f hkx hf).trans hy)
      have hok := HX.out xs[k] (List.getElem_mem hkx)
      generalize xs[k] = s at hcx hok
      obtain ⟨sn, ⟨src, dst, proto, id, off, more, whole, ttl, body⟩, sv⟩ := s
      obtain ⟨slo, skey, soff, sb⟩ := hok
      dsimp only at slo skey soff sb
      obtain ⟨n, hn⟩ : ∃ n, body.length = n := ⟨_, rfl⟩
      obtain ⟨A, cap, rfl⟩ := slice_len sb hn
      have Hsb := hid sb
      have Hn := hid hn
      have Hkey := hid skey
      have Hone := hid (show ([.int .i64 sn, .int .u32 (src : Int), .int .u32 (dst : Int), .int .i64 proto, .int .i64 id, .int .i64 off, .bool more, .bool whole, .int .i64 ttl, .slice A n cap] : List Value).all (·.oneCell') = true by simp [Value.oneCell'])
      have Hrange := hid (show wr.rangeAt gb (ob + k * 10) [.int .i64 sn, .int .u32 (src : Int), .int .u32 (dst : Int), .int .i64 proto, .int .i64 id, .int .i64 off, .bool more, .bool whole, .int .i64 ttl, .slice A n cap] from fun j y hy => by
        have hj : j < 10 := by have := (List.getElem?_eq_some_iff.1 hy).1; exact this
        rw [Nat.add_assoc]
        exact hcx j hj y hy)
      clear hcell hcx hA hn sb skey hkx hkl1 hkl2 hm hS hclk
      go_upto_region 11 with (first | ((with_reducible show wpList _ _ _ (Oper.mk (some 33) _ _ _ _ _ :: _) _ _); refine wpList_load_mid rfl _ _ rfl gb (ob + k * 10) rfl _ _ Hrange.out Try.underlying68 rfl istepinfo ?_) | ((with_reducible show wpList _ _ _ (Oper.mk none _ _ _ _ _ :: _) _ _); refine wpList_storeBlk rfl _ _ _ rfl _ _ rfl rfl _ _ (Blk.new _ _ _) istepinfo rfl Hone.out ?_; intro w4 hblk hg hsz; have S4 := hid (HS.out.keep (below_new_store hg)); have O4 := hid (show Own1 w4 wr.heap.size 68 [.int .i64 sn, .int .u32 (src : Int), .int .u32 (dst : Int), .int .i64 proto, .int .i64 id, .int .i64 off, .bool more, .bool whole, .int .i64 ttl, .slice A n cap] F FX from ⟨hblk, fun q => by have := (HS.out.a.lt _ q).2; omega, fun q => by have := (HS.out.x.lt _ q).2; omega⟩); have Hgs := hid (show w.heap.size ≤ wr.heap.size from HS.out.bel.size); clear hblk hg hsz))
      obtain ⟨gs, hgs⟩ : ∃ g, wr.heap.size = g := ⟨_, rfl⟩
      rw [hgs] at O4 Hgs ⊢
      clear hgs HS Hone Hrange
      have d0 : w4.cell? ⟨gs, 0, none⟩ = some (.int .i64 sn) := O4.out.blk.cell 0
      go_upto_if 36 with fail
      go_cut [7, 8, 9, 10, 11, 12] from 36 to 91 (fun _ _ _ _ _ _ wx => ∃ (m2 : Nat) (clock2 : Int) (l2 : List Wt) (F2 FX2 : Nat → Prop), m2 ≤ k + 1 ∧ (0 ≤ clock2 ∧ clock2 ≤ (k + 1 : Nat) * 1099511627776) ∧ Hid (SndL l2) ∧ PtSt2 w wx gP gX clock2 m2 m2 l2 l2 F2 FX2)
      case rest =>
        obtain ⟨m2, clock2, l2, F2, FX2, hm2, hclk2, HL2, hS2⟩ := hcut
        generalize wc = w9 at *
        clear d0 S4 O4 Hsb Hn Hkey Hgs
        have HWt := hid (fun wy (y : Below w9.heap.size w9 wy) => waits_any w.heap.size gP l2 m2 F2 wy (hS2.a.keep y))
        obtain ⟨L, vr, hl, hX⟩ := hS2.x
        obtain ⟨ln, hln⟩ : ∃ t, L.length = t := ⟨_, rfl⟩
        have hll : l2.length = ln := by rw [← hl, List.length_map, hln]
        obtain ⟨_, AL, capL, hvr, _, _, _⟩ := hX.row.rowN
        rw [hln] at hvr
        have hln4 : ln ≤ 4 := by rw [← hll, ← hl]; exact hX.ok.len
        have c1 := fun wy (y : Below w9.heap.size w9 wy) => (hX.keep y).tab.cell 1
        rw [hvr] at c1
        rw [hll] at HWt
        have S9 := hid hS2
        have C1 := hid (show ∀ wy, Below w9.heap.size w9 wy → wy.cell? ⟨gX, 1, none⟩ = some (.slice AL ln capL) from c1)
        clear hvr hX hl hln hll hS2 c1
        go_upto_region 26 with fail
        go_region_held3 (fun wy => Below w9.heap.size w9 wy ∧ wy.cell? ⟨gX, 1, none⟩ = some (.slice AL ln capL)) ((first | exact ⟨below_drew w9, C1.out _ (below_drew w9)⟩ | exact ⟨Hb7.out, C1.out _ Hb7.out⟩)) (first
          | (go_at_call 29; refine (HWt.out _ (below_drew w9)).mono ?_; rintro e w7 ⟨rfl, hb7⟩; have Hb7 := hid ((below_drew w9).trans (hb7.mono (by first | exact Nat.le_refl _ | simp))); clear hb7))
        all_goals
          go_wp2_with fail
          go_roundg (60 - (k + 1))
          case measure => omega
          case rel => exact ⟨k + 1, m2, clock2, l2, F2, FX2, by omega, Nat.le_refl _, rfl, hm2, hclk2, HL2, S9.out.keep Hb7.out⟩
      case first =>
        by_cases h0 : sn = 0
        case neg =>
          have hb0 : (sn != 0) = true := by simpa using h0
          clear h0
          rw [hb0]
          clear hb0
          go_upto_if 39 with fail
          go_cut [] from 39 to 40 (fun wx => ∃ sn' : Int, (-9223372036854775808 ≤ sn' ∧ sn' ≤ 1099511627776) ∧ PtSt2 w wx gP gX clock m m l l F FX ∧ Own1 wx gs 68 [.int .i64 sn', .int .u32 (src : Int), .int .u32 (dst : Int), .int .i64 proto, .int .i64 id, .int .i64 off, .bool more, .bool whole, .int .i64 ttl, .slice A n cap] F FX)
          case first =>
            by_cases hbig : sn > 1099511627776
            · have z0 := O4.out.blk.frozen 0
              go_wp2_with fail
              go_meet
              case rel =>
                have hgs := grown_set w4 gs 0 (.int .i64 5000)
                exact ⟨5000, by omega, S4.out.free (frame_one hgs) (fun q hq => by subst hq; exact ⟨Hgs.out, O4.out.a, O4.out.x⟩), ⟨O4.out.blk.set_ 0 _, O4.out.a, O4.out.x⟩⟩
            · go_wp2_with fail
              go_meet
              case rel => exact ⟨sn, by omega, S4.out, O4.out⟩
          case rest =>
            obtain ⟨sn', hsn, hS2, hO2⟩ := hcut
            generalize wc = w2 at *
            clear d0 S4 O4 Hsb Hn Hkey
            have S2 := hid hS2
            have O2 := hid hO2
            have hages : ∀ x ∈ l, x.age < 3000 := fun x hx => (HL.out x hx).2
            obtain ⟨l2, hl2⟩ : ∃ z, (pTick l sn').1 = z := ⟨_, rfl⟩
            obtain ⟨q, hq⟩ : ∃ z, (pTick l sn').2 = z := ⟨_, rfl⟩
            have HL2 := hid (show SndL l2 by rw [← hl2]; exact sndL_tick HL.out sn')
            have HTA := hid (show ∀ wy mX lX ck FX', PtSt2 w wy gP gX ck m mX l lX F FX' → Own1 wy gs 68 [.int .i64 sn', .int .u32 (src : Int), .int .u32 (dst : Int), .int .i64 proto, .int .i64 id, .int .i64 off, .bool more, .bool whole, .int .i64 ttl, .slice A n cap] F FX' → Calls Try.prog 26 #[.pointer (some ⟨gP, 0, none⟩), .int .i64 sn'] wy fun e w' => e = .returned (.int .i64 q) ∧ PtSt2 w w' gP gX ck m mX l2 lX F FX' ∧ Own1 w' gs 68 [.int .i64 sn', .int .u32 (src : Int), .int .u32 (dst : Int), .int .i64 proto, .int .i64 id, .int .i64 off, .bool more, .bool whole, .int .i64 ttl, .slice A n cap] F FX' from fun wy mX lX ck FX' h1 h2 => by
              refine (tick_any w.heap.size gP l m F sn' wy h1.a hages (by omega) (by omega)).mono ?_
              rintro e w' ⟨rfl, hi, hf⟩
              rw [hl2] at hi
              rw [hq]
              exact ⟨rfl, h1.opA hf hi (fun k hk => .inl hk), h2.opA hf (fun k hk => .inl hk)⟩)
            have HTX := hid (show ∀ wy mA lA F', PtSt2 w wy gP gX clock mA m lA l F' FX → Own1 wy gs 68 [.int .i64 sn', .int .u32 (src : Int), .int .u32 (dst : Int), .int .i64 proto, .int .i64 id, .int .i64 off, .bool more, .bool whole, .int .i64 ttl, .slice A n cap] F' FX → Calls Try.prog 27 #[.pointer (some ⟨gX, 0, none⟩), .int .i64 sn'] wy fun e w' => e = .returned (.int .i64 q) ∧ ∃ FX2, PtSt2 w w' gP gX (clock + max sn' 0) mA m lA l2 F' FX2 ∧ Own1 w' gs 68 [.int .i64 sn', .int .u32 (src : Int), .int .u32 (dst : Int), .int .i64 proto, .int .i64 id, .int .i64 off, .bool more, .bool whole, .int .i64 ttl, .slice A n cap] F' FX2 from fun wy mA lA F' h1 h2 => by
              have := Hclk.out
              refine (rtick_any w.heap.size gX clock l m FX sn' wy h1.x hages (by omega) (by omega)).mono ?_
              rintro e w' ⟨rfl, FX2, hi, hf, hn⟩
              rw [hl2] at hi
              rw [hq]
              exact ⟨rfl, FX2, h1.opX hf hi hn, h2.opX hf hn⟩)
            clear hl2 hq hages hS2 hO2
            go_upto_region 14 with fail
            go_cut [49] from 41 to 49 (fun s wx => s = .bool false ∧ ∃ FX2, PtSt2 w wx gP gX (clock + max sn' 0) m m l2 l2 F FX2)
            case first =>
              refine wp_region_held_drew (S := fun wy => wy.cell? ⟨gs, 0, none⟩ = some (.int .i64 sn')) (by kernel_rfl) (by first | exact (O2.out.keep (below_drew _)).blk.cell 0 | exact O6.out.blk.cell 0 | exact O5.out.blk.cell 0) (fun _ => ?_)
              (refine wpAnyH_take (i := 0) (v := .pointer (some ⟨gP, 0, none⟩)) rfl (by kernel_rfl) (by kernel_rfl) (by kernel_rfl) (fun _ _ _ h => h) (Or.inl ⟨by rfl, by intro wq hSw; skip; go_simp⟩) (by first | exact (O2.out.keep (below_drew _)).blk.cell 0 | exact O6.out.blk.cell 0 | exact O5.out.blk.cell 0) ?_; (try simp only [Act.put, List.setIfInBounds_toArray, List.set_cons_zero, List.set_cons_succ]))
              (refine wpAnyH_take (i := 1) (v := .pointer (some ⟨gs, 0, none⟩)) rfl (by kernel_rfl) (by kernel_rfl) (by kernel_rfl) (fun _ _ _ h => h) (Or.inl ⟨by rfl, by intro wq hSw; skip; go_simp⟩) (by first | exact (O2.out.keep (below_drew _)).blk.cell 0 | exact O6.out.blk.cell 0 | exact O5.out.blk.cell 0) ?_; (try simp only [Act.put, List.setIfInBounds_toArray, List.set_cons_zero, List.set_cons_succ]))
              (refine wpAnyH_take (i := 2) (v := .int .i64 sn') rfl (by kernel_rfl) (by kernel_rfl) (by kernel_rfl) (fun _ _ _ h => h) (Or.inl ⟨by rfl, by intro wq hSw; skip; go_simp⟩) (by first | exact (O2.out.keep (below_drew _)).blk.cell 0 | exact O6.out.blk.cell 0 | exact O5.out.blk.cell 0) ?_; (try simp only [Act.put, List.setIfInBounds_toArray, List.set_cons_zero, List.set_cons_succ]))
              (refine wpAnyH_take (i := 4) (v := .pointer (some ⟨gX, 0, none⟩)) rfl (by kernel_rfl) (by kernel_rfl) (by kernel_rfl) (fun _ _ _ h => h) (Or.inl ⟨by rfl, by intro wq hSw; skip; go_simp⟩) (by first | exact (O2.out.keep (below_drew _)).blk.cell 0 | exact O6.out.blk.cell 0 | exact O5.out.blk.cell 0) ?_; (try simp only [Act.put, List.setIfInBounds_toArray, List.set_cons_zero, List.set_cons_succ]))
              (refine wpAnyH_take (i := 5) (v := .pointer (some ⟨gs, 0, none⟩)) rfl (by kernel_rfl) (by kernel_rfl) (by kernel_rfl) (fun _ _ _ h => h) (Or.inl ⟨by rfl, by intro wq hSw; skip; go_simp⟩) (by first | exact (O2.out.keep (below_drew _)).blk.cell 0 | exact O6.out.blk.cell 0 | exact O5.out.blk.cell 0) ?_; (try simp only [Act.put, List.setIfInBounds_toArray, List.set_cons_zero, List.set_cons_succ]))
              (refine wpAnyH_take (i := 6) (v := .int .i64 sn') rfl (by kernel_rfl) (by kernel_rfl) (by kernel_rfl) (fun _ _ _ h => h) (Or.inl ⟨by rfl, by intro wq hSw; skip; go_simp⟩) (by first | exact (O2.out.keep (below_drew _)).blk.cell 0 | exact O6.out.blk.cell 0 | exact O5.out.blk.cell 0) ?_; (try simp only [Act.put, List.setIfInBounds_toArray, List.set_cons_zero, List.set_cons_succ]))
              (refine wpAnyH_ready (rs := [3]) (by kernel_rfl) (by simp) ?_; refine (AllReadyH.cons rfl (fun K hK => ?_) AllReadyH.nil))
              (go_simp; go_at_call 26; refine (HTA.out _ _ _ _ _ (S2.out.keep (below_drew _)) (O2.out.keep (below_drew _))).mono ?_; rintro e w5 ⟨rfl, s5, o5⟩; have S5 := hid s5; have O5 := hid o5; clear s5 o5)
              (refine hK.out _ _ (by first | exact (O2.out.keep (below_drew _)).blk.cell 0 | exact O6.out.blk.cell 0 | exact O5.out.blk.cell 0) (fun _ => ?_); clear hK K; (try simp only [Act.put, List.setIfInBounds_toArray, List.set_cons_zero, List.set_cons_succ]))
              (refine wpAnyH_ready (rs := [7]) (by kernel_rfl) (by simp) ?_; refine (AllReadyH.cons rfl (fun K hK => ?_) AllReadyH.nil))
              (go_simp; go_at_call 27; refine (HTX.out _ _ _ _ S5.out O5.out).mono ?_; rintro e w6 ⟨rfl, FX2, s6, o6⟩; have S6 := hid s6; have O6 := hid o6; clear s6 o6)
              (refine hK.out _ _ (by first | exact (O2.out.keep (below_drew _)).blk.cell 0 | exact O6.out.blk.cell 0 | exact O5.out.blk.cell 0) (fun _ => ?_); clear hK K; (try simp only [Act.put, List.setIfInBounds_toArray, List.set_cons_zero, List.set_cons_succ]))
              (refine wpAnyH_ready (rs := [8]) (by kernel_rfl) (by simp) ?_; refine (AllReadyH.cons rfl (fun K hK => ?_) AllReadyH.nil))
              go_simp
              (refine hK.out _ _ (by first | exact (O2.out.keep (below_drew _)).blk.cell 0 | exact O6.out.blk.cell 0 | exact O5.out.blk.cell 0) (fun _ => ?_); clear hK K; (try simp only [Act.put, List.setIfInBounds_toArray, List.set_cons_zero, List.set_cons_succ]))
              refine wpAnyH_done (by kernel_rfl) ?_ _
              go_wp2_with fail
              go_meet
              case rel => exact ⟨rfl, FX2, S6.out⟩
            case rest =>
              obtain ⟨rfl, FX2, hS5⟩ := hcut
              have S5 := hid hS5
              clear hS5 HTA HTX S2 O2
              go_wp2_with fail
              go_meet
              case rel => exact ⟨m, clock + max sn' 0, l2, F, FX2, by have := Hm.out; omega, by have := Hclk.out; omega, HL2, S5.out⟩
        case pos =>
          subst h0
          have cD9 : w4.cell? ⟨gs, 9, none⟩ = some (.slice A n cap) := O4.out.blk.cell 9
          by_cases hbig : n > 3000
          · have hbI : (n : Int) > 3000 := by omega
            go_wp2_with fail
            go_roundg (60 - (k + 1))
            case measure => omega
            case rel => exact ⟨k + 1, m, clock, l, F, FX, by omega, Nat.le_refl _, rfl, by have := Hm.out; omega, by have := Hclk.out; omega, HL, S4.out⟩
          have hbI : ¬ (n : Int) > 3000 := by omega
          have hn3 : n ≤ 3000 := by omega
          clear hbig d0
          have HTw := hid (show ∀ wy, Below w4.heap.size w4 wy → Calls Try.prog 12 #[.agg #[.int .u32 (src : Int), .int .u32 (dst : Int), .int .i64 proto, .int .i64 id, .int .i64 off, .bool more, .bool whole, .int .i64 ttl, .slice A n cap]] wy fun e w' => ∃ A5 c5, e = .returned (.agg #[.int .u32 (src : Int), .int .u32 (dst : Int), .int .i64 proto, .int .i64 id, .int .i64 off, .bool more, .bool whole, .int .i64 ttl, .slice A5 n c5]) ∧ OwnBs w' w4.heap.size 5 (.slice A5 n c5) body ∧ Below w4.heap.size w4 w' from fun wy hb => by
            refine (ltwin_any (.slice A n cap) (⟨src, dst, proto, id, off, more, whole, ttl, body⟩ : Pk) wy ((Hsb.out.below S4.out.bel).below hb) (by rw [Hn.out]; omega)).mono ?_
            rintro e w' ⟨v', rfl, ho, hb'⟩
            obtain ⟨A5, c5, rfl⟩ := slice_len ho.bs Hn.out
            exact ⟨A5, c5, rfl, ho.mono hb.size, hb.trans (hb'.mono hb.size)⟩)
          go_upto_region 18 with (first
            | ((with_reducible show wpList _ _ _ (Oper.mk (some 56) _ _ _ _ _ :: _) _ _); refine wpList_load_mid rfl _ _ rfl gs 1 rfl [.int .u32 (src : Int), .int .u32 (dst : Int), .int .i64 proto, .int .i64 id, .int .i64 off, .bool more, .bool whole, .int .i64 ttl, .slice A n cap] _ (fun j y hy => by rw [O4.out.blk.cell (1 + j), Nat.add_comm 1 j]; exact hy) Try.underlying25 rfl pkinfo ?_)
            | (go_at_call 12; refine (HTw.out _ (Below.refl _ _)).mono ?_; rintro e w5 ⟨A5, c5, rfl, hown, hb⟩; have V5 := hid hown; have Hb5 := hid hb; clear hown hb)
            | ((with_reducible show wpList _ _ _ (Oper.mk none (Op.store _ (Operand.tmp 7) _) _ _ _ _ :: _) _ _); refine wpList_storeBlk rfl _ _ _ rfl _ _ rfl rfl _ _ (Blk.new _ _ _) pkinfo rfl rfl ?_; intro w6 hblk hg hsz; have hb6 := below_new_store hg; have Q6 := hid hblk; have Hb6 := hid (Hb5.out.trans (hb6.mono Hb5.out.size)); have V6 := hid (V5.out.below hb6); clear hblk hg hsz hb6)
            | fail)
          obtain ⟨gq, hgq⟩ : ∃ g, w5.heap.size = g := ⟨_, rfl⟩
          rw [hgq] at Q6 ⊢
          have hge : w4.heap.size ≤ gq := by rw [← hgq]; exact Hb5.out.size
          have hgs4 := O4.out.blk.lt
          have S6 := hid (S4.out.keep Hb6.out)
          have O6 := hid (O4.out.keep Hb6.out)
          have Q6 := hid (show Own1 w6 gq 25 [.int .u32 (src : Int), .int .u32 (dst : Int), .int .i64 proto, .int .i64 id, .int .i64 off, .bool more, .bool whole, .int .i64 ttl, .slice A5 n c5] F FX from ⟨Q6.out, fun q => by have := (S4.out.a.lt _ q).2; omega, fun q => by have := (S4.out.x.lt _ q).2; omega⟩)
          have N6 := hid (show ∀ z, (Value.slice A5 n c5).ownBlock = some z → ¬ F z ∧ ¬ FX z ∧ z < w6.heap.size ∧ w.heap.size ≤ z from fun z hz => by
            have h1 := own_at V6.out hz
            exact ⟨fun q => by have := (S4.out.a.lt _ q).2; omega, fun q => by have := (S4.out.x.lt _ q).2; omega, h1.2, by have := S4.out.bel.size; omega⟩)
          obtain ⟨l2, ⟨s9, d9, pr9, id9, of9, mo9, wh9, tt9, bd9⟩, code, hadd⟩ : ∃ l2 q code, pAdd l (⟨src, dst, proto, id, off, more, whole, ttl, body⟩ : Pk) = (l2, q, code) := ⟨_, _, _, rfl⟩
          obtain ⟨n9, hn9⟩ : ∃ z, bd9.length = z := ⟨_, rfl⟩
          have Hn9 := hid hn9
          have HL2 := hid (show SndL l2 by have := sndL_add HL.out (⟨src, dst, proto, id, off, more, whole, ttl, body⟩ : Pk) Hkey.out; rw [hadd] at this; exact this)
          have HAA := hid (show Calls Try.prog 21 #[.pointer (some ⟨gP, 0, none⟩), .agg #[.int .u32 (src : Int), .int .u32 (dst : Int), .int .i64 proto, .int .i64 id, .int .i64 off, .bool more, .bool whole, .int .i64 ttl, .slice A5 n c5]] w6 fun e w' => ∃ A6 c6, e = .returned (.tuple #[.agg #[.int .u32 (s9 : Int), .int .u32 (d9 : Int), .int .i64 pr9, .int .i64 id9, .int .i64 of9, .bool mo9, .bool wh9, .int .i64 tt9, .slice A6 n9 c6], .int .i64 code]) ∧ OwnBs w' w6.heap.size 5 (.slice A6 n9 c6) bd9 ∧ ∃ F2, PtSt2 w w' gP gX clock (m + 1) m l2 l F2 FX ∧ Frame F w6 w' ∧ ∀ z, F2 z → F z ∨ w6.heap.size ≤ z from by
            refine (add_any w.heap.size gP l m F (.slice A5 n c5) (⟨src, dst, proto, id, off, more, whole, ttl, body⟩ : Pk) w6 S6.out.a (by have := Hm.out; omega) (OwnBs.bs V6.out) (by rw [Hn.out]; omega) Hkey.out).mono ?_
            rintro e w' ⟨v', rfl, ho, F2, hi, hf, hn2⟩
            rw [hadd] at ho hi ⊢
            obtain ⟨A6, c6, rfl⟩ := slice_len ho.bs hn9
            exact ⟨A6, c6, rfl, ho, F2, S6.out.opA hf hi hn2, hf, hn2⟩)
          have HXA := hid (show ∀ wy FA mA lA, PtSt2 w wy gP gX clock mA m lA l FA FX → Calls Try.prog 28 #[.pointer (some ⟨gX, 0, none⟩), .agg #[.int .u32 (src : Int), .int .u32 (dst : Int), .int .i64 proto, .int .i64 id, .int .i64 off, .bool more, .bool whole, .int .i64 ttl, .slice A n cap]] wy fun e w' => ∃ A7 c7, e = .returned (.tuple #[.agg #[.int .u32 (s9 : Int), .int .u32 (d9 : Int), .int .i64 pr9, .int .i64 id9, .int .i64 of9, .bool mo9, .bool wh9, .int .i64 tt9, .slice A7 n9 c7], .int .i64 code]) ∧ OwnBs w' wy.heap.size 5 (.slice A7 n9 c7) bd9 ∧ ∃ FX2, PtSt2 w w' gP gX clock mA (m + 1) lA l2 FA FX2 ∧ Frame FX wy w' ∧ ∀ z, FX2 z → FX z ∨ wy.heap.size ≤ z from fun wy FA mA lA h => by
            refine (radd_any w.heap.size gX clock l m FX (.slice A n cap) (⟨src, dst, proto, id, off, more, whole, ttl, body⟩ : Pk) wy h.x (by have := Hm.out; omega) (Hsb.out.below h.bel) (by rw [Hn.out]; omega) Hkey.out HL.out soff (fun a n1 c e hz q => ?_)).mono ?_
            · have h1 := (h.x.lt _ q).1
              obtain ⟨_, A', cap', hv', _, _, h4⟩ := Hsb.out
              rw [e] at hv'
              injection hv' with e1 e2 e3
              subst e2
              rcases h4 with h4 | ⟨b, ob, hb, hc⟩
              · exact hz h4
              · rw [← e1] at hb
                injection hb with hb
                have h5 := hc 0 _ (List.getElem?_eq_getElem (by simp; omega))
                have h6 := World.block_lt_of_cell? w _ h5
                rw [hb] at h1
                simp only at h6 h1
                omega
            · rintro e w' ⟨v', rfl, ho, FX2, hi, hf, hn2⟩
              rw [hadd] at ho hi ⊢
              obtain ⟨A7, c7, rfl⟩ := slice_len ho.bs hn9
              exact ⟨A7, c7, rfl, ho, FX2, h.opX hf hi hn2, hf, hn2⟩)
          clear hge hgs4 hgq hadd hn9 cD9 HTw V5 Hb5 Hb6 S4 O4
          go_upto_region 19 with (first
            | ((with_reducible show wpList _ _ _ (Oper.mk (some 60) _ _ _ _ _ :: _) _ _); refine wpList_loadBlk rfl _ _ rfl _ rfl _ _ _ Q6.out.blk Try.underlying25 pkinfo ?_)
            | (go_at_call 21; refine HAA.out.mono ?_; rintro e w7 ⟨A6, c6, rfl, hown, F2, hs, hf, hn2⟩; have S7 := hid hs; have R7 := hid hown; have Hf7 := hid hf; have Hn7 := hid hn2; have O7 := hid (O6.out.opA hf hn2); have Q7 := hid (Q6.out.opA hf hn2); have V7 := hid (show OwnBs w7 w4.heap.size 5 (.slice A5 n c5) body from hf.own V6.out (fun z hz => (N6.out z hz).1)); clear hown hs hf hn2)
            | ((with_reducible show wpList _ _ _ (Oper.mk none (Op.store _ (Operand.tmp 8) _) _ _ _ _ :: _) _ _); refine wpList_storeBlk rfl _ _ _ rfl _ _ rfl rfl _ _ (Blk.new _ _ _) pkinfo rfl rfl ?_; intro w8 hblk hg hsz; have hb8 := below_new_store hg; have B8 := hid hblk; have S8 := hid (S7.out.keep hb8); have O8 := hid (O7.out.keep hb8); have Q8 := hid (Q7.out.keep hb8); have V8 := hid (V7.out.below hb8); have R8 := hid (R7.out.below hb8); have Hs8 := hid hb8.size; clear hblk hg hsz hb8)
            | fail)
          obtain ⟨g8, hg8⟩ : ∃ g, w7.heap.size = g := ⟨_, rfl⟩
          rw [hg8] at B8 ⊢
          have HTh := hid (theirs_any (.slice A n cap) (⟨src, dst, proto, id, off, more, whole, ttl, body⟩ : Pk) w8 (Hsb.out.below S8.out.bel))
          have Hg8 := hid (And.intro Q7.out.blk.lt (And.intro O7.out.blk.lt hg8))
          clear HAA S7 R7 O7 Q7 V7 hg8
          go_upto_region 20 with (first
            | ((with_reducible show wpList _ _ _ (Oper.mk (some 67) _ _ _ _ _ :: _) _ _); refine wpList_load_mid rfl _ _ rfl gs 1 rfl [.int .u32 (src : Int), .int .u32 (dst : Int), .int .i64 proto, .int .i64 id, .int .i64 off, .bool more, .bool whole, .int .i64 ttl, .slice A n cap] _ (fun j y hy => by rw [O8.out.blk.cell (1 + j), Nat.add_comm 1 j]; exact hy) Try.underlying25 rfl pkinfo ?_)
            | (go_at_call 14; refine HTh.out.mono ?_; rintro e w9 ⟨rfl, hb⟩; have Hb9 := hid hb; have S9 := hid (S8.out.keep hb); clear hb)
            | (go_at_call 28; refine (HXA.out _ _ _ _ S9.out).mono ?_; rintro e w10 ⟨A7, c7, rfl, hown, FX2, hs, hf, hn2⟩; have S10 := hid hs; have D10 := hid hown; have Hf10 := hid hf; have Hn10 := hid hn2; clear hown hs hf hn2)
            | ((with_reducible show wpList _ _ _ (Oper.mk none (Op.store _ (Operand.tmp 10) _) _ _ _ _ :: _) _ _); refine wpList_storeBlk rfl _ _ _ rfl _ _ rfl rfl _ _ (Blk.new _ _ _) rpkinfo rfl rfl ?_; intro w11 hblk hg hsz; have hb11 := below_new_store hg; have D11 := hid hblk; have Hb11 := hid hb11; have S11 := hid (S10.out.keep hb11); have V11b := hid (D10.out.below hb11); clear hblk hg hsz hb11)
            | fail)
          have hFX8 : ∀ z, FX z → z < w6.heap.size := fun z hz => (S6.out.x.lt z hz).2
          have h67 := Hf7.out.size
          have hR : ∀ z, (Value.slice A6 n9 c6).ownBlock = some z → ¬ FX z := fun z hz q => by have := (own_at R8.out hz).1; have := hFX8 z q; omega
          have R11 := hid (OwnBs.below (show OwnBs w10 w6.heap.size 5 (.slice A6 n9 c6) bd9 from Hf10.out.own (R8.out.below Hb9.out) hR) Hb11.out)
          have hq8 : ¬ FX g8 := fun q => by have := hFX8 g8 q; have := Hg8.out.2.2; omega
          have B11 := hid ((Hf10.out.blk (B8.out.keep Hb9.out) hq8).keep Hb11.out)
          have Q11 := hid (((Q8.out.keep Hb9.out).opX Hf10.out Hn10.out).keep Hb11.out)
          have V11 := hid (OwnBs.below (show OwnBs w10 w4.heap.size 5 (.slice A5 n c5) body from Hf10.out.own (V8.out.below Hb9.out) (fun z hz => (N6.out z hz).2.1)) Hb11.out)
          have N11 := hid (show ∀ z, (Value.slice A5 n c5).ownBlock = some z → w.heap.size ≤ z ∧ ¬ F2 z ∧ ¬ FX2 z from fun z hz => by
            obtain ⟨h1, h2, h3, h4⟩ := N6.out z hz
            refine ⟨h4, fun q => ?_, fun q => ?_⟩
            · rcases Hn7.out z q with q | q
              · exact h1 q
              · omega
            · rcases Hn10.out z q with q | q
              · exact h2 q
              · have := Hb9.out.size; have := Hs8.out; omega)
          have HSa := hid (fun wy (y : Below w11.heap.size w11 wy) => same_any (.slice A6 n9 c6) (.slice A7 n9 c7) ⟨s9, d9, pr9, id9, of9, mo9, wh9, tt9, bd9⟩ wy ((OwnBs.bs R11.out).below y) ((OwnBs.bs V11b.out).below y))
          clear HXA HTh Hb9 S9 S10 D10 Hf10 Hn10 B8 S8 O8 Q8 V8 R8 Hs8 Hg8 hFX8 h67 hR hq8 Hf7 Hn7 N6 S6 O6 Q6 V6 Hb11 R11 V11b
          go_upto_region 22 with (first
            | ((with_reducible show wpList _ _ _ (Oper.mk (some 72) _ _ _ _ _ :: _) _ _); refine wpList_loadBlk rfl _ _ rfl _ rfl _ _ _ B11.out Try.underlying25 pkinfo ?_)
            | ((with_reducible show wpList _ _ _ (Oper.mk (some 73) _ _ _ _ _ :: _) _ _); refine wpList_loadBlk rfl _ _ rfl _ rfl _ _ _ D11.out Try.underlying35 rpkinfo ?_)
            | (go_at_call 15; refine (HSa.out _ (Below.refl _ _)).mono ?_; rintro e w12 ⟨rfl, hb⟩; have S12 := hid (S11.out.keep hb); have Q12 := hid (Q11.out.keep hb); have V12 := hid (V11.out.below hb); clear hb)
            | fail)
          clear B11 D11 HSa S11 Q11 V11
          go_upto_region 23 with fail
          go_loopg [12] n (fun gk s12 wx => ∃ j : Nat, j ≤ n ∧ n - j ≤ gk ∧ s12 = .int .i64 (j : Int) ∧ PtSt2 w wx gP gX clock (m + 1) (m + 1) l2 l2 F2 FX2 ∧ Own1 wx gq 25 [.int .u32 (src : Int), .int .u32 (dst : Int), .int .i64 proto, .int .i64 id, .int .i64 off, .bool more, .bool whole, .int .i64 ttl, .slice A5 n c5] F2 FX2 ∧ ∃ bs : List UInt8, bs.length = n ∧ OwnBs wx w4.heap.size 5 (.slice A5 n c5) bs)
          case atStart => exact ⟨0, Nat.zero_le _, by omega, rfl, S12.out, Q12.out, body, Hn.out, V12.out⟩
          case round =>
            obtain ⟨j, hj, hgk2, rfl, hS, hQ, bs, hbl, hV⟩ := hrel
            have c8 : wr.cell? ⟨gq, 8, none⟩ = some (.slice A5 n c5) := hQ.blk.cell 8
            have HS13 := hid hS
            have HQ13 := hid hQ
            have HV13 := hid hV
            by_cases hjl : j < n
            · have hjI : (j : Int) < (n : Int) := by omega
              have hj1 : IntKind.i64.wrap ((j : Int) + 1) = ((j + 1 : Nat) : Int) := by rw [IntWalk.i64_in _ (by omega)]; omega
              obtain ⟨gv, cv, hv, hv1, hv2, hv3⟩ := own_open hV (by omega)
              injection hv with e1 e2 e3
              subst e1
              obtain ⟨old, cv1⟩ : ∃ u, wr.cell? ⟨gv, j, none⟩ = some u := ⟨_, (own_cell hV j (by omega)).1⟩
              have fv1 : wr.frozen? ⟨gv, j, none⟩ = false := (own_cell hV j (by omega)).2
              have Hset := hid (own_set hV j 238 (.int .u8 238) rfl)
              have Hbl := hid hbl
              clear hS hQ hV hbl e2 e3 hv1
              go_wp2_with fail
              go_roundg (n - (j + 1))
              case measure => omega
              case rel =>
                have hN := N11.out gv rfl
                have hfr := frame_one Hset.out.2
                exact ⟨j + 1, by omega, Nat.le_refl _, rfl, HS13.out.free hfr (fun q hq => by subst hq; exact hN), ⟨hfr.blk HQ13.out.blk (fun e => by
                  obtain ⟨cur, hcur⟩ := own_blkS HV13.out rfl
                  exact Blk.ne HQ13.out.blk hcur (by decide) e), HQ13.out.a, HQ13.out.x⟩, _, by rw [List.length_set]; exact Hbl.out, Hset.out.1⟩
            · have hjI : ¬ (j : Int) < (n : Int) := by omega
              clear hS hQ hV hbl
              go_wp2_with fail
              go_meet
              case rel => exact ⟨m + 1, clock, l2, F2, FX2, by have := Hm.out; omega, by have := Hclk.out; omega, HL2, HS13.out⟩
end Go.Proofs.Ytbjiicnagfeciaa
