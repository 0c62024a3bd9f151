/- TcpPlays: a call of both: Send, Recv. -/
import Derived.Test.YtahlcjkcdgahkaaTpA
import Derived.Deep.RegionHeld3
namespace Go.Proofs.Ytahlcjkcdgahkaa
section
open Go Go.RowKit
attribute [local go_sem ↓] Go.wp_at_zero Go.wp_at_succ
set_option maxRecDepth 100000
set_option linter.unusedSimpArgs false

section
variable {E : PlEnt} {w0 w : World} {gc gx : Nat} {c : TConn} {m q : Nat} {F FX : Nat → Prop}
theorem done_end (kind : Int) (hk : kind = 3) (nn : Int) (near : Bool) (f t : Int) (sq ak : Nat) (fl wi ms : Int) (A : Option Addr) (n cap : Nat) (h : PlSt E w0 w gc gx c c m q F FX) :
    Calls Try.prog 26 #[.pointer (some ⟨gc, 0, none⟩), .pointer (some ⟨gx, 0, none⟩), .agg #[.int .i64 kind, .int .i64 nn, .bool near, .int .i64 f, .int .i64 t, .int .u32 (sq : Int), .int .u32 (ak : Int), .int .i64 fl, .int .i64 wi, .int .i64 ms, .slice A n cap]] w (DonePost E w0 gc gx m q 0) := by
  have H1 := hid (h.keep (below_alloc w (.cells #[.int .i64 kind, .int .i64 nn, .bool near, .int .i64 f, .int .i64 t, .int .u32 (sq : Int), .int .u32 (ak : Int), .int .i64 fl, .int .i64 wi, .int .i64 ms, .slice A n cap] 54)))
  have BX := hid (Blk.new w 54 #[.int .i64 kind, .int .i64 nn, .bool near, .int .i64 f, .int .i64 t, .int .u32 (sq : Int), .int .u32 (ak : Int), .int .i64 fl, .int .i64 wi, .int .i64 ms, .slice A n cap])
  clear h
  subst hk
  go_enter Try.func26, Try.ntmps26
  go_wp2_with (go_at_call 29; refine (pl_end H1.out).mono ?_; rintro e w2 ⟨⟨u, rfl⟩, h2⟩; have H2 := hid h2; obtain ⟨x13, c13⟩ := h2.ref.has 13 (by decide); have z13 := h2.ref.fz 13; clear h2)
  go_ret
  exact ⟨rfl, _, _, _, pl_rend H2.out⟩
theorem done_tick (kind : Int) (hk : kind = 4) (nn : Int) (near : Bool) (f t : Int) (sq ak : Nat) (fl wi ms : Int) (A : Option Addr) (n cap : Nat) (hn : -9223372036854775808 ≤ nn) (h : PlSt E w0 w gc gx c c m q F FX) :
    Calls Try.prog 26 #[.pointer (some ⟨gc, 0, none⟩), .pointer (some ⟨gx, 0, none⟩), .agg #[.int .i64 kind, .int .i64 nn, .bool near, .int .i64 f, .int .i64 t, .int .u32 (sq : Int), .int .u32 (ak : Int), .int .i64 fl, .int .i64 wi, .int .i64 ms, .slice A n cap]] w (DonePost E w0 gc gx m q 0) := by
  have H1 := hid (h.keep (below_alloc w (.cells #[.int .i64 kind, .int .i64 nn, .bool near, .int .i64 f, .int .i64 t, .int .u32 (sq : Int), .int .u32 (ak : Int), .int .i64 fl, .int .i64 wi, .int .i64 ms, .slice A n cap] 54)))
  have BX := hid (Blk.new w 54 #[.int .i64 kind, .int .i64 nn, .bool near, .int .i64 f, .int .i64 t, .int .u32 (sq : Int), .int .u32 (ak : Int), .int .i64 fl, .int .i64 wi, .int .i64 ms, .slice A n cap])
  clear h
  subst hk
  by_cases hb : nn > 1099511627776
  · go_enter Try.func26, Try.ntmps26
    go_wp2_with (first
      | (go_at_call 23; refine (pl_tick H1.out _).mono ?_; rintro e w2 ⟨⟨u, rfl⟩, h2⟩; have H2 := hid h2; clear h2)
      | (go_at_call 49; refine (pl_rtick H2.out _ (by omega)).mono ?_; rintro e w3 ⟨⟨u, rfl⟩, h3⟩; have H3 := hid h3; clear h3))
    go_ret
    exact ⟨rfl, _, _, _, H3.out⟩
  · have hb2 : nn ≤ 1099511627776 := by omega
    go_enter Try.func26, Try.ntmps26
    go_wp2_with (first
      | (go_at_call 23; refine (pl_tick H1.out _).mono ?_; rintro e w2 ⟨⟨u, rfl⟩, h2⟩; have H2 := hid h2; clear h2)
      | (go_at_call 49; refine (pl_rtick H2.out _ (by omega)).mono ?_; rintro e w3 ⟨⟨u, rfl⟩, h3⟩; have H3 := hid h3; clear h3))
    go_ret
    exact ⟨rfl, _, _, _, H3.out⟩
end
end
section
open Go Go.RowKit
attribute [local go_sem ↓] Go.wp_at_zero Go.wp_at_succ
set_option maxRecDepth 100000
set_option linter.unusedSimpArgs false

section
variable {E : PlEnt} {w0 w : World} {gc gx : Nat} {c : TConn} {m q : Nat} {F FX : Nat → Prop}
theorem done_send (kind : Int) (hk : kind = 2) (nn : Int) (near : Bool) (f t : Int) (sq ak : Nat) (fl wi ms : Int) (A : Option Addr) (n cap : Nat) (data : List UInt8) (hd : Bs w (.slice A n cap) data) (hl : n ≤ 4000) (hf : data.length = 0 ∨ ∀ k, (Value.slice A n cap).ownBlock = some k → ¬ F k ∧ ¬ FX k) (h : PlSt E w0 w gc gx c c m q F FX) :
    Calls Try.prog 26 #[.pointer (some ⟨gc, 0, none⟩), .pointer (some ⟨gx, 0, none⟩), .agg #[.int .i64 kind, .int .i64 nn, .bool near, .int .i64 f, .int .i64 t, .int .u32 (sq : Int), .int .u32 (ak : Int), .int .i64 fl, .int .i64 wi, .int .i64 ms, .slice A n cap]] w (DonePost E w0 gc gx m q 0) := by
  have hdl : data.length = n := hd.open.1
  have Hdl := hid hdl
  have Hl := hid hl
  obtain ⟨cd, hcd⟩ : ∃ x, (tSend c data).2 = x := ⟨_, rfl⟩
  have Hcd := hid hcd
  have H1 := hid (h.keep (below_alloc w (.cells #[.int .i64 kind, .int .i64 nn, .bool near, .int .i64 f, .int .i64 t, .int .u32 (sq : Int), .int .u32 (ak : Int), .int .i64 fl, .int .i64 wi, .int .i64 ms, .slice A n cap] 54)))
  have BX := hid (Blk.new w 54 #[.int .i64 kind, .int .i64 nn, .bool near, .int .i64 f, .int .i64 t, .int .u32 (sq : Int), .int .u32 (ak : Int), .int .i64 fl, .int .i64 wi, .int .i64 ms, .slice A n cap])
  have D1 := hid (hd.alloc (.cells #[.int .i64 kind, .int .i64 nn, .bool near, .int .i64 f, .int .i64 t, .int .u32 (sq : Int), .int .u32 (ak : Int), .int .i64 fl, .int .i64 wi, .int .i64 ms, .slice A n cap] 54))
  have HF := hid hf
  have HN := hid (show ¬ F w.heap.size ∧ ¬ FX w.heap.size from h.fresh _ (.inl (Nat.le_refl _)))
  clear h hd hf hcd hdl hl
  subst hk
  go_enter Try.func26, Try.ntmps26
  go_upto_region 1 with fail
  obtain ⟨gb, hgb⟩ : ∃ g, w.heap.size = g := ⟨_, rfl⟩
  rw [hgb] at BX HN ⊢
  generalize w.alloc (.cells #[.int .i64 2, .int .i64 nn, .bool near, .int .i64 f, .int .i64 t, .int .u32 (sq : Int), .int .u32 (ak : Int), .int .i64 fl, .int .i64 wi, .int .i64 ms, .slice A n cap] 54) = w1 at *
  have b0 := BX.out.cell 0
  have b10 : (w1.alloc (.cells #[] 5)).cell? ⟨gb, 10, none⟩ = some (.slice A n cap) := cell_below (below_alloc _ _) (BX.out.cell 10)
  go_upto_region 18 with ((with_reducible show wpList _ _ _ (Oper.mk (some 88) _ _ _ _ _ :: _) _ _); refine wpList_app8 _ rfl _ _ 28 rfl _ 5 u8ok (.slice (some ⟨_, 0, none⟩) 0 0) [] rfl (ownBs_litNil (by simp) (Nat.le_refl _)) _ data rfl (D1.out.alloc _) (by have := Hl.out; have := Hdl.out; simp; omega) (by simp) ?_; intro v2 w2 hown hb hg2 hat2; rw [List.nil_append] at hown; clear hg2 hat2; have hb2 := (below_alloc _ _).trans hb; have H2 := hid (H1.out.keep hb2); have B2 := hid (BX.out.keep hb2); have D2 := hid (D1.out.below hb2); have V2 := hid hown.bs; clear hown hb hb2)
  clear b0 b10
  refine wp_region_held_drew (S := fun wy => wy.cell? ⟨gb, 10, none⟩ = some (.slice A n cap)) (by kernel_rfl) (by first | trivial | exact B3.out.cell 10 | exact (B2.out.keep (below_drew _)).cell 10 | exact B4.out.cell 10) (fun _ => ?_)
  (refine wpAnyH_take (i := 0) (v := .pointer (some ⟨gc, 0, none⟩)) rfl (by kernel_rfl) (by kernel_rfl) (by kernel_rfl) (fun _ _ _ h => h) (Or.inl ⟨by rfl, by intro wq hSw; skip; go_simp⟩) (by first | trivial | exact B3.out.cell 10 | exact (B2.out.keep (below_drew _)).cell 10 | exact B4.out.cell 10) ?_; (try simp only [Act.put, List.setIfInBounds_toArray, List.set_cons_zero, List.set_cons_succ]))
  (refine wpAnyH_take (i := 1) (v := v2) rfl (by kernel_rfl) (by kernel_rfl) (by kernel_rfl) (fun _ _ _ h => h) (Or.inl ⟨by rfl, by intro wq hSw; skip; go_simp⟩) (by first | trivial | exact B3.out.cell 10 | exact (B2.out.keep (below_drew _)).cell 10 | exact B4.out.cell 10) ?_; (try simp only [Act.put, List.setIfInBounds_toArray, List.set_cons_zero, List.set_cons_succ]))
  (refine wpAnyH_take (i := 3) (v := .pointer (some ⟨gx, 0, none⟩)) rfl (by kernel_rfl) (by kernel_rfl) (by kernel_rfl) (fun _ _ _ h => h) (Or.inl ⟨by rfl, by intro wq hSw; skip; go_simp⟩) (by first | trivial | exact B3.out.cell 10 | exact (B2.out.keep (below_drew _)).cell 10 | exact B4.out.cell 10) ?_; (try simp only [Act.put, List.setIfInBounds_toArray, List.set_cons_zero, List.set_cons_succ]))
  (refine wpAnyH_take (i := 4) (v := .pointer (some ⟨gb, 3, none⟩)) rfl (by kernel_rfl) (by kernel_rfl) (by kernel_rfl) (fun _ _ _ h => h) (Or.inl ⟨by rfl, by intro wq hSw; skip; go_simp⟩) (by first | trivial | exact B3.out.cell 10 | exact (B2.out.keep (below_drew _)).cell 10 | exact B4.out.cell 10) ?_; (try simp only [Act.put, List.setIfInBounds_toArray, List.set_cons_zero, List.set_cons_succ]))
  (refine wpAnyH_take (i := 5) (v := .pointer (some ⟨gb, 10, none⟩)) rfl (by kernel_rfl) (by kernel_rfl) (by kernel_rfl) (fun _ _ _ h => h) (Or.inl ⟨by rfl, by intro wq hSw; skip; go_simp⟩) (by first | trivial | exact B3.out.cell 10 | exact (B2.out.keep (below_drew _)).cell 10 | exact B4.out.cell 10) ?_; (try simp only [Act.put, List.setIfInBounds_toArray, List.set_cons_zero, List.set_cons_succ]))
  (refine wpAnyH_take (i := 6) (v := .slice A n cap) rfl (by kernel_rfl) (by kernel_rfl) (by kernel_rfl) (fun _ _ _ h => h) (Or.inl ⟨by rfl, by intro wq hSw; skip; go_simp⟩) (by first | trivial | exact B3.out.cell 10 | exact (B2.out.keep (below_drew _)).cell 10 | exact B4.out.cell 10) ?_; (try simp only [Act.put, List.setIfInBounds_toArray, List.set_cons_zero, List.set_cons_succ]))
  (refine wpAnyH_ready (rs := [2]) (by kernel_rfl) (by simp) ?_; refine (AllReadyH.cons rfl (fun K hK => ?_) AllReadyH.nil))
  (go_simp; go_at_call 21; refine (pl_send (H2.out.keep (below_drew _)) _ data (V2.out.drew)).mono ?_; rintro e w3 ⟨he, F3, h3, fr3⟩; rw [Hcd.out] at he; subst he; have H3 := hid h3; have B3 := hid (fr3.blk (B2.out.keep (below_drew _)) HN.out.1); have D3 := hid (bs_frame D2.out.drew fr3 (HF.out.imp_right fun z k hk => (z k hk).1)); clear h3 fr3)
  (refine hK.out _ _ (by first | trivial | exact B3.out.cell 10 | exact (B2.out.keep (below_drew _)).cell 10 | exact B4.out.cell 10) (fun _ => ?_); clear hK K; (try simp only [Act.put, List.setIfInBounds_toArray, List.set_cons_zero, List.set_cons_succ]))
  (refine wpAnyH_ready (rs := [7]) (by kernel_rfl) (by simp) ?_; refine (AllReadyH.cons rfl (fun K hK => ?_) AllReadyH.nil))
  (go_simp; go_at_call 48; refine (pl_rsend H3.out A n cap data D3.out (by have := Hl.out; omega)).mono ?_; rintro e w4 ⟨he, FX4, h4, fr4⟩; rw [Hcd.out] at he; subst he; have H4 := hid h4; have B4 := hid (fr4.blk B3.out HN.out.2); clear h4 fr4)
  (refine hK.out _ _ (by first | trivial | exact B3.out.cell 10 | exact (B2.out.keep (below_drew _)).cell 10 | exact B4.out.cell 10) (fun _ => ?_); clear hK K; (try simp only [Act.put, List.setIfInBounds_toArray, List.set_cons_zero, List.set_cons_succ]))
  (refine wpAnyH_ready (rs := [8]) (by kernel_rfl) (by simp) ?_; refine (AllReadyH.cons rfl (fun K hK => ?_) AllReadyH.nil))
  go_simp
  (refine hK.out _ _ (by first | trivial | exact B3.out.cell 10 | exact (B2.out.keep (below_drew _)).cell 10 | exact B4.out.cell 10) (fun _ => ?_); clear hK K; (try simp only [Act.put, List.setIfInBounds_toArray, List.set_cons_zero, List.set_cons_succ]))
  (refine wpAnyH_ready (rs := [9]) (by kernel_rfl) (by simp) ?_; refine (AllReadyH.cons rfl (fun K hK => ?_) AllReadyH.nil))
  go_simp
  (refine hK.out _ _ (by first | trivial | exact B3.out.cell 10 | exact (B2.out.keep (below_drew _)).cell 10 | exact B4.out.cell 10) (fun _ => ?_); clear hK K; (try simp only [Act.put, List.setIfInBounds_toArray, List.set_cons_zero, List.set_cons_succ]))
  refine wpAnyH_done (by kernel_rfl) ?_ _
  go_wp2_with fail
  go_ret
  exact ⟨rfl, _, _, _, H4.out⟩
theorem done_recv (kind : Int) (hk : kind = 6) (nn : Int) (near : Bool) (f t : Int) (sq ak : Nat) (fl wi ms : Int) (A : Option Addr) (n cap : Nat) (h : PlSt E w0 w gc gx c c m q F FX) :
    Calls Try.prog 26 #[.pointer (some ⟨gc, 0, none⟩), .pointer (some ⟨gx, 0, none⟩), .agg #[.int .i64 kind, .int .i64 nn, .bool near, .int .i64 f, .int .i64 t, .int .u32 (sq : Int), .int .u32 (ak : Int), .int .i64 fl, .int .i64 wi, .int .i64 ms, .slice A n cap]] w (DonePost E w0 gc gx m q 0) := by
  obtain ⟨rd, hrd⟩ : ∃ x, c.inn.ready = x := ⟨_, rfl⟩
  have Hrd := hid hrd
  have H1 := hid (h.keep (below_alloc w (.cells #[.int .i64 kind, .int .i64 nn, .bool near, .int .i64 f, .int .i64 t, .int .u32 (sq : Int), .int .u32 (ak : Int), .int .i64 fl, .int .i64 wi, .int .i64 ms, .slice A n cap] 54)))
  have BX := hid (Blk.new w 54 #[.int .i64 kind, .int .i64 nn, .bool near, .int .i64 f, .int .i64 t, .int .u32 (sq : Int), .int .u32 (ak : Int), .int .i64 fl, .int .i64 wi, .int .i64 ms, .slice A n cap])
  clear h hrd
  subst hk
  go_enter Try.func26, Try.ntmps26
  go_upto_region 1 with fail
  obtain ⟨gb, hgb⟩ : ∃ g, w.heap.size = g := ⟨_, rfl⟩
  rw [hgb] at BX ⊢
  generalize w.alloc (.cells #[.int .i64 6, .int .i64 nn, .bool near, .int .i64 f, .int .i64 t, .int .u32 (sq : Int), .int .u32 (ak : Int), .int .i64 fl, .int .i64 wi, .int .i64 ms, .slice A n cap] 54) = w1 at *
  have b0 := BX.out.cell 0
  clear hgb
  go_upto_region 31 with fail
  clear b0 BX
  refine wp_region_held_drew (S := fun wy => True) (by kernel_rfl) trivial (fun _ => ?_)
  (refine wpAnyH_take (i := 0) (v := .pointer (some ⟨gc, 0, none⟩)) rfl (by kernel_rfl) (by kernel_rfl) (by kernel_rfl) (fun _ _ _ h => h) (Or.inl ⟨by rfl, by intro wq hSw; skip; go_simp⟩) (by first | trivial | exact B3.out.cell 10 | exact (B2.out.keep (below_drew _)).cell 10 | exact B4.out.cell 10) ?_; (try simp only [Act.put, List.setIfInBounds_toArray, List.set_cons_zero, List.set_cons_succ]))
  (refine wpAnyH_take (i := 3) (v := .pointer (some ⟨gx, 0, none⟩)) rfl (by kernel_rfl) (by kernel_rfl) (by kernel_rfl) (fun _ _ _ h => h) (Or.inl ⟨by rfl, by intro wq hSw; skip; go_simp⟩) (by first | trivial | exact B3.out.cell 10 | exact (B2.out.keep (below_drew _)).cell 10 | exact B4.out.cell 10) ?_; (try simp only [Act.put, List.setIfInBounds_toArray, List.set_cons_zero, List.set_cons_succ]))
  (refine wpAnyH_ready (rs := [1]) (by kernel_rfl) (by simp) ?_; refine (AllReadyH.cons rfl (fun K hK => ?_) AllReadyH.nil))
  (go_simp; go_at_call 19; refine (pl_recv (H1.out.keep (below_drew _))).mono ?_; rintro e w3 ⟨v3, F3, rfl, hb3, h3, hn3⟩; rw [Hrd.out] at hb3; have H3 := hid h3; have V3 := hid hb3; have N3 := hid hn3; clear h3 hb3 hn3)
  (refine hK.out _ _ (by first | trivial | exact B3.out.cell 10 | exact (B2.out.keep (below_drew _)).cell 10 | exact B4.out.cell 10) (fun _ => ?_); clear hK K; (try simp only [Act.put, List.setIfInBounds_toArray, List.set_cons_zero, List.set_cons_succ]))
  (refine wpAnyH_ready (rs := [2, 4]) (by kernel_rfl) (by simp) ?_; refine (AllReadyH.cons rfl (fun K hK => ?_) (AllReadyH.cons rfl (fun K hK => ?_) AllReadyH.nil)))
  · have s3 := run_str (P := Try.prog) Try.underlying28 Try.underlying5 Try.underlying9 V3.out
    go_simp
    clear s3
    (refine hK.out _ _ (by first | trivial | exact B3.out.cell 10 | exact (B2.out.keep (below_drew _)).cell 10 | exact B4.out.cell 10) (fun _ => ?_); clear hK K; (try simp only [Act.put, List.setIfInBounds_toArray, List.set_cons_zero, List.set_cons_succ]))
    (refine wpAnyH_ready (rs := [4]) (by kernel_rfl) (by simp) ?_; refine (AllReadyH.cons rfl (fun K hK => ?_) AllReadyH.nil))
    (go_simp; go_at_call 50; refine (pl_rrecv H3.out).mono ?_; rintro e w4 ⟨v4, rfl, hb4, h4, fr4⟩; rw [Hrd.out] at hb4; have H4 := hid h4; have V4 := hid hb4; have W4 := hid (bs_frame V3.out fr4 (.inr N3.out)); clear h4 hb4 fr4)
    (refine hK.out _ _ (by first | trivial | exact B3.out.cell 10 | exact (B2.out.keep (below_drew _)).cell 10 | exact B4.out.cell 10) (fun _ => ?_); clear hK K; (try simp only [Act.put, List.setIfInBounds_toArray, List.set_cons_zero, List.set_cons_succ]))
    (refine wpAnyH_ready (rs := [5]) (by kernel_rfl) (by simp) ?_; refine (AllReadyH.cons rfl (fun K hK => ?_) AllReadyH.nil))
    have s4 := run_str (P := Try.prog) Try.underlying28 Try.underlying5 Try.underlying9 V4.out
    go_simp
    clear s4
    (refine hK.out _ _ (by first | trivial | exact B3.out.cell 10 | exact (B2.out.keep (below_drew _)).cell 10 | exact B4.out.cell 10) (fun _ => ?_); clear hK K; (try simp only [Act.put, List.setIfInBounds_toArray, List.set_cons_zero, List.set_cons_succ]))
    (refine wpAnyH_ready (rs := [6]) (by kernel_rfl) (by simp) ?_; refine (AllReadyH.cons rfl (fun K hK => ?_) AllReadyH.nil))
    go_simp
    (refine hK.out _ _ (by first | trivial | exact B3.out.cell 10 | exact (B2.out.keep (below_drew _)).cell 10 | exact B4.out.cell 10) (fun _ => ?_); clear hK K; (try simp only [Act.put, List.setIfInBounds_toArray, List.set_cons_zero, List.set_cons_succ]))
    (refine wpAnyH_ready (rs := [7]) (by kernel_rfl) (by simp) ?_; refine (AllReadyH.cons rfl (fun K hK => ?_) AllReadyH.nil))
    go_simp
    (refine hK.out _ _ (by first | trivial | exact B3.out.cell 10 | exact (B2.out.keep (below_drew _)).cell 10 | exact B4.out.cell 10) (fun _ => ?_); clear hK K; (try simp only [Act.put, List.setIfInBounds_toArray, List.set_cons_zero, List.set_cons_succ]))
    refine wpAnyH_done (by kernel_rfl) ?_ _
    go_wp2_with fail
    go_ret
    exact ⟨rfl, _, _, _, H4.out⟩
  · (go_simp; go_at_call 50; refine (pl_rrecv H3.out).mono ?_; rintro e w4 ⟨v4, rfl, hb4, h4, fr4⟩; rw [Hrd.out] at hb4; have H4 := hid h4; have V4 := hid hb4; have W4 := hid (bs_frame V3.out fr4 (.inr N3.out)); clear h4 hb4 fr4)
    (refine hK.out _ _ (by first | trivial | exact B3.out.cell 10 | exact (B2.out.keep (below_drew _)).cell 10 | exact B4.out.cell 10) (fun _ => ?_); clear hK K; (try simp only [Act.put, List.setIfInBounds_toArray, List.set_cons_zero, List.set_cons_succ]))
    (refine wpAnyH_ready (rs := [2, 5]) (by kernel_rfl) (by simp) ?_; refine (AllReadyH.cons rfl (fun K hK => ?_) (AllReadyH.cons rfl (fun K hK => ?_) AllReadyH.nil)))
    · have s3 := run_str (P := Try.prog) Try.underlying28 Try.underlying5 Try.underlying9 W4.out
      go_simp
      clear s3
      (refine hK.out _ _ (by first | trivial | exact B3.out.cell 10 | exact (B2.out.keep (below_drew _)).cell 10 | exact B4.out.cell 10) (fun _ => ?_); clear hK K; (try simp only [Act.put, List.setIfInBounds_toArray, List.set_cons_zero, List.set_cons_succ]))
      (refine wpAnyH_ready (rs := [5]) (by kernel_rfl) (by simp) ?_; refine (AllReadyH.cons rfl (fun K hK => ?_) AllReadyH.nil))
      have s4 := run_str (P := Try.prog) Try.underlying28 Try.underlying5 Try.underlying9 V4.out
      go_simp
      clear s4
      (refine hK.out _ _ (by first | trivial | exact B3.out.cell 10 | exact (B2.out.keep (below_drew _)).cell 10 | exact B4.out.cell 10) (fun _ => ?_); clear hK K; (try simp only [Act.put, List.setIfInBounds_toArray, List.set_cons_zero, List.set_cons_succ]))
      (refine wpAnyH_ready (rs := [6]) (by kernel_rfl) (by simp) ?_; refine (AllReadyH.cons rfl (fun K hK => ?_) AllReadyH.nil))
      go_simp
      (refine hK.out _ _ (by first | trivial | exact B3.out.cell 10 | exact (B2.out.keep (below_drew _)).cell 10 | exact B4.out.cell 10) (fun _ => ?_); clear hK K; (try simp only [Act.put, List.setIfInBounds_toArray, List.set_cons_zero, List.set_cons_succ]))
      (refine wpAnyH_ready (rs := [7]) (by kernel_rfl) (by simp) ?_; refine (AllReadyH.cons rfl (fun K hK => ?_) AllReadyH.nil))
      go_simp
      (refine hK.out _ _ (by first | trivial | exact B3.out.cell 10 | exact (B2.out.keep (below_drew _)).cell 10 | exact B4.out.cell 10) (fun _ => ?_); clear hK K; (try simp only [Act.put, List.setIfInBounds_toArray, List.set_cons_zero, List.set_cons_succ]))
      refine wpAnyH_done (by kernel_rfl) ?_ _
      go_wp2_with fail
      go_ret
      exact ⟨rfl, _, _, _, H4.out⟩
    · have s4 := run_str (P := Try.prog) Try.underlying28 Try.underlying5 Try.underlying9 V4.out
      go_simp
      clear s4
      (refine hK.out _ _ (by first | trivial | exact B3.out.cell 10 | exact (B2.out.keep (below_drew _)).cell 10 | exact B4.out.cell 10) (fun _ => ?_); clear hK K; (try simp only [Act.put, List.setIfInBounds_toArray, List.set_cons_zero, List.set_cons_succ]))
      (refine wpAnyH_ready (rs := [2]) (by kernel_rfl) (by simp) ?_; refine (AllReadyH.cons rfl (fun K hK => ?_) AllReadyH.nil))
      have s3 := run_str (P := Try.prog) Try.underlying28 Try.underlying5 Try.underlying9 W4.out
      go_simp
      clear s3
      (refine hK.out _ _ (by first | trivial | exact B3.out.cell 10 | exact (B2.out.keep (below_drew _)).cell 10 | exact B4.out.cell 10) (fun _ => ?_); clear hK K; (try simp only [Act.put, List.setIfInBounds_toArray, List.set_cons_zero, List.set_cons_succ]))
      (refine wpAnyH_ready (rs := [6]) (by kernel_rfl) (by simp) ?_; refine (AllReadyH.cons rfl (fun K hK => ?_) AllReadyH.nil))
      go_simp
      (refine hK.out _ _ (by first | trivial | exact B3.out.cell 10 | exact (B2.out.keep (below_drew _)).cell 10 | exact B4.out.cell 10) (fun _ => ?_); clear hK K; (try simp only [Act.put, List.setIfInBounds_toArray, List.set_cons_zero, List.set_cons_succ]))
      (refine wpAnyH_ready (rs := [7]) (by kernel_rfl) (by simp) ?_; refine (AllReadyH.cons rfl (fun K hK => ?_) AllReadyH.nil))
      go_simp
      (refine hK.out _ _ (by first | trivial | exact B3.out.cell 10 | exact (B2.out.keep (below_drew _)).cell 10 | exact B4.out.cell 10) (fun _ => ?_); clear hK K; (try simp only [Act.put, List.setIfInBounds_toArray, List.set_cons_zero, List.set_cons_succ]))
      refine wpAnyH_done (by kernel_rfl) ?_ _
      go_wp2_with fail
      go_ret
      exact ⟨rfl, _, _, _, H4.out⟩
end
end
end Go.Proofs.Ytahlcjkcdgahkaa
