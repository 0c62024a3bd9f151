/- TcpPlays: a call of both: Out. -/
import Derived.Test.YtahlcjkcdgahkaaTpC
namespace Go.Proofs.Ytahlcjkcdgahkaa
open Go Go.RowKit
attribute [local go_sem ↓] Go.wp_at_zero Go.wp_at_succ
set_option maxRecDepth 100000
set_option linter.unusedSimpArgs false

theorem OwnRgs.at {w : World} {base : Nat} {v : Value} {qs : List (TSeg × Value)} (h : OwnRgs w base v qs) (hq : 0 < qs.length) :
    ∃ b cap, v = .slice (some ⟨b, 0, none⟩) qs.length cap ∧ base ≤ b ∧ b < w.heap.size ∧ ∀ i (hi : i < qs.length) j, j < 8 → w.cell? ⟨b, 8 * i + j, none⟩ = (qs[i].1.cells qs[i].2)[j]? := by
  rcases h.row.2 with ⟨rfl, h0⟩ | ⟨g, cap, cur, rfl, hb, hg, h1, h2, h3, h4⟩
  · omega
  · refine ⟨g, cap, rfl, hb, (Array.getElem?_eq_some_iff.1 hg).1, fun i hi j hj => ?_⟩
    rw [← sgRow_at qs i j hi hj]
    have hx : (sgRow qs)[8 * i + j]? = some ((sgRow qs)[8 * i + j]'(by rw [sgRow_len]; omega)) := List.getElem?_eq_getElem _
    rw [hx]
    have := h.row.cells (g := g) rfl (8 * i + j) _ hx
    rw [add_off, Nat.zero_add] at this
    exact this
section
variable {E : PlEnt} {w0 w : World} {gc gx : Nat} {c : TConn} {m q : Nat} {F FX : Nat → Prop}
set_option maxHeartbeats 2000000 in
theorem done_out (kind : Int) (hk1 : kind ≠ 1) (hk2 : kind ≠ 2) (hk3 : kind ≠ 3) (hk4 : kind ≠ 4) (hk6 : kind ≠ 6) (nn : Int) (near : Bool) (f t : Int) (sq ak : Nat) (fl wi ms : Int) (A : Option Addr) (n cap : Nat) (h : PlSt E w0 w gc gx c c m q F FX) :
    Calls Try.prog 26 #[.pointer (some ⟨gc, 0, none⟩), .pointer (some ⟨gx, 0, none⟩), .agg #[.int .i64 kind, .int .i64 nn, .bool near, .int .i64 f, .int .i64 t, .int .u32 (sq : Int), .int .u32 (ak : Int), .int .i64 fl, .int .i64 wi, .int .i64 ms, .slice A n cap]] w (DonePost E w0 gc gx m q 0) := by
  have hb1 : (kind == 1) = false := by simpa using hk1
  have hb2 : (kind == 2) = false := by simpa using hk2
  have hb3 : (kind == 3) = false := by simpa using hk3
  have hb4 : (kind == 4) = false := by simpa using hk4
  have hb6 : (kind == 6) = false := by simpa using hk6
  obtain ⟨l, hl⟩ : ∃ x, (tOut c).1 = x := ⟨_, rfl⟩
  have Hl := hid hl
  have H1 := hid (h.keep (below_alloc w (.cells #[.int .i64 kind, .int .i64 nn, .bool near, .int .i64 f, .int .i64 t, .int .u32 (sq : Int), .int .u32 (ak : Int), .int .i64 fl, .int .i64 wi, .int .i64 ms, .slice A n cap] 54)))
  have BX := hid (Blk.new w 54 #[.int .i64 kind, .int .i64 nn, .bool near, .int .i64 f, .int .i64 t, .int .u32 (sq : Int), .int .u32 (ak : Int), .int .i64 fl, .int .i64 wi, .int .i64 ms, .slice A n cap])
  clear h hl hk1 hk2 hk3 hk4 hk6
  go_enter Try.func26, Try.ntmps26
  go_upto_region 1 with fail
  generalize w.alloc (.cells #[.int .i64 kind, .int .i64 nn, .bool near, .int .i64 f, .int .i64 t, .int .u32 (sq : Int), .int .u32 (ak : Int), .int .i64 fl, .int .i64 wi, .int .i64 ms, .slice A n cap] 54) = w1 at *
  obtain ⟨gb, hgb⟩ : ∃ g, w.heap.size = g := ⟨_, rfl⟩
  rw [hgb] at BX ⊢
  have b0 := BX.out.cell 0
  clear hgb
  go_upto_region 34 with (first
    | (go_at_call 17; refine (pl_out H1.out l Hl.out).mono ?_; rintro e w2 ⟨v2, rfl, ho, h2⟩; have H2 := hid h2; have Ho2 := hid ho; clear ho h2)
    | (go_at_call 51; refine (pl_rout H2.out l Hl.out).mono ?_; rintro e w3 ⟨v3, rfl, ho, h3, fr⟩; have H3 := hid h3; have Ho3 := hid ho; have Fr3 := hid fr; clear ho h3 fr))
  obtain ⟨qs, hq0, hql⟩ := Ho2.out
  obtain ⟨rs, hr0, hrl⟩ := Ho3.out
  have hq1 := hq0.frame Fr3.out (fun k hk => (H1.out.ref.bd k hk).2)
  have hlen : qs.length = rs.length := by have h1 := congrArg List.length hql; have h2 := congrArg List.length hrl; rw [List.length_map] at h1 h2; omega
  have Hsm := hid (show ∀ k (h1 : k < qs.length) (h2 : k < rs.length), (qs[k]).1 = (rs[k]).1 from fun k h1 h2 => by
    have e : (qs.map Prod.fst)[k]? = (rs.map Prod.fst)[k]? := by rw [hql, hrl]
    rw [List.getElem?_map, List.getElem?_map, List.getElem?_eq_getElem h1, List.getElem?_eq_getElem h2] at e
    simpa using e)
  obtain ⟨_, A2, cap2, rfl, ha2, hb2', _⟩ := RowN.of_own hq1.row
  obtain ⟨_, A3, cap3, rfl, ha3, hb3', _⟩ := RowN.of_own hr0.row
  obtain ⟨nl, hnl⟩ : ∃ x, qs.length = x := ⟨_, rfl⟩
  have hnr : rs.length = nl := by omega
  have hnlM : nl ≤ 9223372036854775807 := by unfold maxLen at hb2'; omega
  have Hq := hid hq1
  have Hr := hid hr0
  have Hnl := hid hnl
  have Hnr := hid hnr
  have HnM := hid hnlM
  rw [hnl, hnr]
  clear hq0 hr0 hq1 hql hrl hlen hnl hnr hnlM ha2 hb2' ha3 hb3' Ho2 Ho3 Fr3 H2 H1 b0 BX Hl
  go_wp2_with fail
  go_loopg [13] nl (fun gk s13 wx => ∃ k : Nat, k ≤ nl ∧ gk = nl - k ∧ s13 = .int .i64 (k : Int) ∧ Below w3.heap.size w3 wx)
  case atStart => exact ⟨0, by omega, rfl, rfl, Below.refl _ _⟩
  case round =>
    obtain ⟨k, hk, rfl, rfl, hbx⟩ := hrel
    have Hbx := hid hbx
    clear hbx
    by_cases hlt : k < nl
    · have t3 : (k : Int) < (nl : Int) := by omega
      have Hms := hid (show nl - (k + 1) < nl - k ∧ k + 1 ≤ nl by omega)
      have hk1 : wrap64 ((k : Int) + 1) = ((k + 1 : Nat) : Int) := by have := HnM.out; unfold wrap64; omega
      have Hk1 := hid hk1
      have hkq : k < qs.length := by rw [Hnl.out]; exact hlt
      have hkr : k < rs.length := by rw [Hnr.out]; exact hlt
      obtain ⟨b2, cp2, hv2, _, _, hc2⟩ := Hq.out.at (by omega)
      obtain ⟨b3, cp3, hv3, _, _, hc3⟩ := Hr.out.at (by omega)
      injection hv2 with e1 e2 e3
      subst e1
      injection hv3 with e4 e5 e6
      subst e4
      clear e2 e3 e5 e6 hk1
      have hcx : ∀ wy, Below wr.heap.size wr wy → ∀ j v, j < 8 → (qs[k].1.cells qs[k].2)[j]? = some v → wy.cell? ⟨b2, k * 8 + j, none⟩ = some v := fun wy hb j v hj hv => by
        rw [show k * 8 + j = 8 * k + j by omega]
        exact cell_below (Hbx.out.trans (hb.mono Hbx.out.size)) ((hc2 k hkq j hj).trans hv)
      have hcy : ∀ wy, Below wr.heap.size wr wy → ∀ j v, j < 8 → (rs[k].1.cells rs[k].2)[j]? = some v → wy.cell? ⟨b3, k * 8 + j, none⟩ = some v := fun wy hb j v hj hv => by
        rw [show k * 8 + j = 8 * k + j by omega]
        exact cell_below (Hbx.out.trans (hb.mono Hbx.out.size)) ((hc3 k hkr j hj).trans hv)
      have hsm := Hsm.out k hkq hkr
      have hd2 := (Hq.out.datas _ (List.getElem_mem hkq)).bs
      have hd3 := (Hr.out.datas _ (List.getElem_mem hkr)).bs
      generalize qs[k] = q2 at hcx hsm hd2
      generalize rs[k] = q3 at hcy hsm hd3
      obtain ⟨⟨sf, st, ssq, sak, sfl, swi, sms, sdat⟩, sv⟩ := q2
      obtain ⟨s3, sv3⟩ := q3
      dsimp only at hcx hcy hsm hd2 hd3
      subst hsm
      dsimp only at hd3
      obtain ⟨nd, hnd⟩ : ∃ n, sdat.length = n := ⟨_, rfl⟩
      obtain ⟨Ad, cpd, rfl⟩ := slice_len hd2 hnd
      obtain ⟨Ae, cpe, rfl⟩ := slice_len hd3 hnd
      have HRg := hid (show ∀ wy, Below wr.heap.size wr wy → wy.rangeAt b2 (k * 8) [.int .i64 sf, .int .i64 st, .int .u32 (ssq : Int), .int .u32 (sak : Int), .int .i64 sfl, .int .i64 swi, .int .i64 sms, .slice Ad nd cpd] ∧ wy.rangeAt b3 (k * 8) [.int .i64 sf, .int .i64 st, .int .u32 (ssq : Int), .int .u32 (sak : Int), .int .i64 sfl, .int .i64 swi, .int .i64 sms, .slice Ae nd cpe] from fun wy hb => ⟨fun j y hy => by
          have hj : j < 8 := by have := (List.getElem?_eq_some_iff.1 hy).1; exact this
          exact hcx wy hb j y hj hy, fun j y hy => by
          have hj : j < 8 := by have := (List.getElem?_eq_some_iff.1 hy).1; exact this
          exact hcy wy hb j y hj hy⟩)
      have HSa := hid (fun wy (y : Below wr.heap.size wr wy) => same_any sf st ssq sak sfl swi sms sdat Ad Ae nd cpd cpe wy (hd2.below (Hbx.out.trans (y.mono Hbx.out.size))) (hd3.below (Hbx.out.trans (y.mono Hbx.out.size))))
      clear hcx hcy hd2 hd3 hnd hc2 hc3 hkq hkr
      go_upto_region 39 with fail
      refine wp_region_held_drew (S := fun wy => wy.rangeAt b2 (k * 8) [.int .i64 sf, .int .i64 st, .int .u32 (ssq : Int), .int .u32 (sak : Int), .int .i64 sfl, .int .i64 swi, .int .i64 sms, .slice Ad nd cpd] ∧ wy.rangeAt b3 (k * 8) [.int .i64 sf, .int .i64 st, .int .u32 (ssq : Int), .int .u32 (sak : Int), .int .i64 sfl, .int .i64 swi, .int .i64 sms, .slice Ae nd cpe]) (by kernel_rfl) (by first | exact (HRg.out _ (below_drew _)) | exact HRg.out _ Hbz.out) (fun _ => ?_)
      (refine wpAnyH_take (i := 0) (v := .slice (some ⟨b2, 0, none⟩) nl cap2) rfl (by kernel_rfl) (by kernel_rfl) (by kernel_rfl) (fun _ _ _ h => h) (Or.inl ⟨by rfl, by intro wq hSw; skip; go_simp⟩) (by first | exact (HRg.out _ (below_drew _)) | exact HRg.out _ Hbz.out) ?_; (try simp only [Act.put, List.setIfInBounds_toArray, List.set_cons_zero, List.set_cons_succ]))
      (refine wpAnyH_take (i := 1) (v := .int .i64 (k : Int)) rfl (by kernel_rfl) (by kernel_rfl) (by kernel_rfl) (fun _ _ _ h => h) (Or.inl ⟨by rfl, by intro wq hSw; skip; go_simp⟩) (by first | exact (HRg.out _ (below_drew _)) | exact HRg.out _ Hbz.out) ?_; (try simp only [Act.put, List.setIfInBounds_toArray, List.set_cons_zero, List.set_cons_succ]))
      (refine wpAnyH_take (i := 2) (v := .pointer (some ⟨b2, k * 8, none⟩)) rfl (by kernel_rfl) (by kernel_rfl) (by kernel_rfl) (fun _ _ _ h => h) (Or.inl ⟨by rfl, by intro wq hSw; skip; go_simp⟩) (by first | exact (HRg.out _ (below_drew _)) | exact HRg.out _ Hbz.out) ?_; (try simp only [Act.put, List.setIfInBounds_toArray, List.set_cons_zero, List.set_cons_succ]))
      (refine wpAnyH_take (i := 3) (v := .agg #[.int .i64 sf, .int .i64 st, .int .u32 (ssq : Int), .int .u32 (sak : Int), .int .i64 sfl, .int .i64 swi, .int .i64 sms, .slice Ad nd cpd]) rfl (by kernel_rfl) (by kernel_rfl) (by kernel_rfl) (fun _ _ _ h => h) (Or.inl ⟨by rfl, by intro wq hSw; have r0 := hSw.1 0 _ rfl; have r1 := hSw.1 1 _ rfl; have r2 := hSw.1 2 _ rfl; have r3 := hSw.1 3 _ rfl; have r4 := hSw.1 4 _ rfl; have r5 := hSw.1 5 _ rfl; have r6 := hSw.1 6 _ rfl; have r7 := hSw.1 7 _ rfl; rw [Nat.add_zero] at r0; clear hSw; go_simp⟩) (by first | exact (HRg.out _ (below_drew _)) | exact HRg.out _ Hbz.out) ?_; (try simp only [Act.put, List.setIfInBounds_toArray, List.set_cons_zero, List.set_cons_succ]))
      (refine wpAnyH_take (i := 4) (v := .slice (some ⟨b3, 0, none⟩) nl cap3) rfl (by kernel_rfl) (by kernel_rfl) (by kernel_rfl) (fun _ _ _ h => h) (Or.inl ⟨by rfl, by intro wq hSw; skip; go_simp⟩) (by first | exact (HRg.out _ (below_drew _)) | exact HRg.out _ Hbz.out) ?_; (try simp only [Act.put, List.setIfInBounds_toArray, List.set_cons_zero, List.set_cons_succ]))
      (refine wpAnyH_take (i := 5) (v := .int .i64 (k : Int)) rfl (by kernel_rfl) (by kernel_rfl) (by kernel_rfl) (fun _ _ _ h => h) (Or.inl ⟨by rfl, by intro wq hSw; skip; go_simp⟩) (by first | exact (HRg.out _ (below_drew _)) | exact HRg.out _ Hbz.out) ?_; (try simp only [Act.put, List.setIfInBounds_toArray, List.set_cons_zero, List.set_cons_succ]))
      (refine wpAnyH_take (i := 6) (v := .pointer (some ⟨b3, k * 8, none⟩)) rfl (by kernel_rfl) (by kernel_rfl) (by kernel_rfl) (fun _ _ _ h => h) (Or.inl ⟨by rfl, by intro wq hSw; skip; go_simp⟩) (by first | exact (HRg.out _ (below_drew _)) | exact HRg.out _ Hbz.out) ?_; (try simp only [Act.put, List.setIfInBounds_toArray, List.set_cons_zero, List.set_cons_succ]))
      (refine wpAnyH_take (i := 7) (v := .agg #[.int .i64 sf, .int .i64 st, .int .u32 (ssq : Int), .int .u32 (sak : Int), .int .i64 sfl, .int .i64 swi, .int .i64 sms, .slice Ae nd cpe]) rfl (by kernel_rfl) (by kernel_rfl) (by kernel_rfl) (fun _ _ _ h => h) (Or.inl ⟨by rfl, by intro wq hSw; have r0 := hSw.2 0 _ rfl; have r1 := hSw.2 1 _ rfl; have r2 := hSw.2 2 _ rfl; have r3 := hSw.2 3 _ rfl; have r4 := hSw.2 4 _ rfl; have r5 := hSw.2 5 _ rfl; have r6 := hSw.2 6 _ rfl; have r7 := hSw.2 7 _ rfl; rw [Nat.add_zero] at r0; clear hSw; go_simp⟩) (by first | exact (HRg.out _ (below_drew _)) | exact HRg.out _ Hbz.out) ?_; (try simp only [Act.put, List.setIfInBounds_toArray, List.set_cons_zero, List.set_cons_succ]))
      (refine wpAnyH_ready (rs := [8]) (by kernel_rfl) (by simp) ?_; refine (AllReadyH.cons rfl (fun K hK => ?_) AllReadyH.nil))
      (go_simp; go_at_call 34; refine (HSa.out _ (below_drew _)).mono ?_; rintro e wz ⟨rfl, hb⟩; have Hbz := hid (show Below wr.heap.size wr wz from (below_drew wr).trans (hb.mono (by first | exact Nat.le_refl _ | simp))); clear hb)
      (refine hK.out _ _ (by first | exact (HRg.out _ (below_drew _)) | exact HRg.out _ Hbz.out) (fun _ => ?_); clear hK K; (try simp only [Act.put, List.setIfInBounds_toArray, List.set_cons_zero, List.set_cons_succ]))
      (refine wpAnyH_ready (rs := [9]) (by kernel_rfl) (by simp) ?_; refine (AllReadyH.cons rfl (fun K hK => ?_) AllReadyH.nil))
      go_simp
      (refine hK.out _ _ (by first | exact (HRg.out _ (below_drew _)) | exact HRg.out _ Hbz.out) (fun _ => ?_); clear hK K; (try simp only [Act.put, List.setIfInBounds_toArray, List.set_cons_zero, List.set_cons_succ]))
      refine wpAnyH_done (by kernel_rfl) ?_ _
      go_wp2_with fail
      go_roundg (nl - (k + 1))
      case measure => exact Hms.out.1
      case rel => exact ⟨k + 1, Hms.out.2, rfl, congrArg (Value.int .i64) Hk1.out, Hbx.out.trans (Hbz.out.mono Hbx.out.size)⟩
    · have t3 : ¬ (k : Int) < (nl : Int) := by omega
      go_wp2_with fail
      go_ret
      exact ⟨rfl, _, _, _, H3.out.keep Hbx.out⟩
end
end Go.Proofs.Ytahlcjkcdgahkaa
