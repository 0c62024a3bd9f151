/- The document's card is made. -/
import Derived.Test.YtgiegiobigdplaaVnBj
namespace Go.Proofs.Ytgiegiobigdplaa
section
open Go Go.RowKit
attribute [local go_sem ↓] Go.wp_at_zero Go.wp_at_succ
set_option maxRecDepth 100000
set_option linter.unusedSimpArgs false
set_option linter.unusedVariables false

theorem onto_ne {w : World} {col col' : Nat → Nat} (h : Onto w col col') (k : Nat) (hk : col' k ≠ 0) : col k ≠ 0 ∨ w.heap.size ≤ k := by
  by_cases hlt : k < w.heap.size
  · rw [h k hlt] at hk
    exact .inl hk
  · exact .inr (by omega)
theorem onto_trans {w w' : World} {c1 c2 c3 : Nat → Nat} (h : Onto w c1 c2) (h' : Onto w' c2 c3) (hs : w.heap.size ≤ w'.heap.size) : Onto w c1 c3 := fun k hk => (h' k (Nat.lt_of_lt_of_le hk hs)).trans (h k hk)
theorem offpair (p : Nat) : offRow [p] = [.int .i64 (p : Int), .int .i64 (p : Int)] := rfl
def ROfferPost (base gm L b n gC : Nat) (M : List UInt8) (ci co : VQ) (m gi go : Nat) (vo : Value) (hi ho : List Nat) (col : Nat → Nat) (p : Nat) (w : World) (e : Ending) (w' : World) : Prop :=
  (∃ u, e = .returned u) ∧ ∃ vi' col', RCard w' base gm L b n gC (vAddM M b n ci.put p (vPlace b n p) 1526 2) (ci.add p) co (m + 1) gi go vi' vo (hi ++ [p]) ho col' ∧ Frame (fun k => col k ≠ 0) w w' ∧ Onto w col col'
set_option maxHeartbeats 8000000 in
theorem roffer_at (base gm L b n gC : Nat) (M : List UInt8) (ci co : VQ) (m gi go : Nat) (vi vo : Value) (hi ho : List Nat) (col : Nat → Nat) (p : Nat) (w : World) (h : RCard w base gm L b n gC M ci co m gi go vi vo hi ho col) (hfit : vFits L (b : Int) (n : Int) = true) (hL : L ≤ 1000000) (hm1 : m < 1000000000)
    (hp : ci.busy[p]? = some false) (hlt : ∀ j, j < p → ci.busy[j]? = some true) (hpn : p < n) :
    Calls Try.prog 32 #[.pointer (some ⟨gC, 0, none⟩), .int .i64 (p : Int)] w (ROfferPost base gm L b n gC M ci co m gi go vo hi ho col p w) := by
  obtain ⟨hok, hfb⟩ := fits_parts hfit
  have hn := okN_le hok
  have HC := hid h
  have hS : vSize n = 8 + 26 * n := rfl
  have hpl : vPlace b n p ≤ 1000000 := by unfold vPlace; omega
  obtain ⟨at_, hat⟩ : ∃ x, vPlace b n p = x := ⟨_, rfl⟩
  have HAt := hid (fun wy (hy : Below w.heap.size w wy) => rat_at gC b n p wy ((HC.out.keep hy).tab.cell 3) ((HC.out.keep hy).tab.cell 4) hok (by omega) (by omega))
  have hcol2 : ¬ col gm = 2 := by rw [h.cm]; decide
  have HAdd := hid (fun wy (hy : Below w.heap.size w wy) (gl : Nat) (hgl : w.heap.size ≤ gl) (hb : Blk wy gl 93 [.int .i64 (at_ : Int), .int .i64 1526, .bool true]) =>
    (show Calls Try.prog 42 #[.pointer (some ⟨gi, 0, none⟩), .slice (some ⟨gl, 0, none⟩) 1 1] wy _ from
      radd_at base gm L b n gi m p at_ 1526 gl true ci M (fun k => col k = 2) wy (HC.out.keep hy).qi (HC.out.keep hy).mem (HC.out.keep hy).len hL hcol2 hok (by omega) hp hlt hb (fun e => by have := (HC.out.flt gl (by rw [e]; decide)).2; omega) (by omega) (by decide) hm1 2 rfl))
  rw [hat] at HAt
  unfold ROfferPost
  rw [hat]
  have c0 : w.cell? ⟨gC, 0, none⟩ = some (.pointer (some ⟨gi, 0, none⟩)) := h.tab.cell 0
  have Hlen := hid (show (vAddM M b n ci.put p at_ 1526 2).length = L by rw [vAddM_len _ _ _ _ _ _ _ _ (by omega) hpn (by rw [h.len]; omega), h.len])
  clear h hok hfb hfit hS hcol2 hp hlt hat
  go_enter Try.func32, Try.ntmps32
  go_upto_region 0 with fail
  go_region_held3 (fun wy => wy.cell? ⟨gC, 0, none⟩ = some (.pointer (some ⟨gi, 0, none⟩))) (first | exact c0 | exact cell_below (below_drew _) c0 | exact cell_below (B1.out _) c0 | exact cell_below (below_alloc' (B1.out _) _) c0 | exact S3.out) (first
    | (go_at_call 41; refine (HAt.out _ (by first | exact Below.refl _ _ | exact below_drew _)).mono ?_; rintro e w1 ⟨rfl, q, rfl⟩; have B1 := hid (fun k => below_drewN (Below.refl w.heap.size w) k))
    | (go_at_call 42; refine (HAdd.out _ (below_alloc' (B1.out (1 + q)) _) w.heap.size (Nat.le_refl _) (Blk.new _ _ _)).mono ?_; rintro e w3 ⟨rfl, F', hq, hmem, hfr, hF⟩; have Bx := hid (below_alloc' (B1.out (1 + q)) (.cells #[.int .i64 (at_ : Int), .int .i64 1526, .bool true] 93)); have CX := hid (HC.out.keep Bx.out); obtain ⟨col2, r3, on3⟩ := CX.out.in_ hfr hq hF hmem Hlen.out (Nat.le_succ m); have R3 := hid r3; have On3 := hid (show Onto w col col2 from fun k hk => on3 k (Nat.lt_of_lt_of_le hk Bx.out.size)); have FX := hid ((Below.frameF Bx.out (fun k => col k ≠ 0)).trans hfr (fun k _ e => e.elim (fun e => by rw [e]; decide) (fun e => by rw [e, HC.out.cm]; decide))); have S3 := hid (show w3.cell? ⟨gC, 0, none⟩ = some (.pointer (some ⟨gi, 0, none⟩)) from R3.out.tab.cell 0); clear hq hmem hfr hF r3 on3)
    | fail)
  have hz3 := FX.out.size
  obtain ⟨_, A, c, hvi, hlc, hcm, _⟩ := RowN.of_own R3.out.oi
  subst hvi
  obtain ⟨ln, hln⟩ : ∃ x, hi.length = x := ⟨_, rfl⟩
  have Hln := hid hln
  have Hlm := hid (show ln ≤ m by rw [← hln]; exact HC.out.li)
  have c5 : w3.cell? ⟨gC, 5, none⟩ = some (.slice A ln c) := (R3.out.tab.cell 5).trans (congrArg (fun z : Nat => some (Value.slice A z c)) hln)
  have hown := R3.out.oi
  unfold OffAt at hown
  rw [hln] at hown
  have Hown := hid hown
  have z5 := R3.out.tab.frozen 5
  have Hbase := hid (show base ≤ w.heap.size from by have := HC.out.flt gC (by rw [HC.out.cC]; decide); omega)
  have Hm1 := hid hm1
  clear hown hln hlc hcm c0 HAdd HAt hm1 B1 S3
  go_wp2_with ((with_reducible show wpList _ _ _ (Oper.mk (some 28) _ _ _ _ _ :: _) _ _); refine wpList_app _ rfl _ _ 65 rfl base 90 (.agg #[.int .i64 0, .int .i64 0]) 2 16 offok (.slice A ln c) ln (offRow hi) rfl (own_below Hown.out (below_alloc _ _)) (.slice (some ⟨w3.heap.size, 0, none⟩) 1 1) 1 [.int .i64 (p : Int), .int .i64 (p : Int)] rfl (rowS_lit 2 #[.int .i64 (p : Int), .int .i64 (p : Int)] 1 _ rfl rfl (by simp [maxLen])) (by simp [Value.oneCell']) (by have := Hlm.out; have := Hm1.out; omega) (by have := Hlm.out; have := Hm1.out; simp only [maxLen]; omega) (by have := Hbase.out; simp; omega) ?_; intro v9 w9 hown9 hg9 hat9; obtain ⟨_, A9, k9, rfl, _, _, _⟩ := RowN.of_own hown9; have O9 := hid hown9; have G9 := hid (show Frame (fun k => (Value.slice A ln c).ownBlock = some k) w3 w9 from (Below.frameF (below_alloc w3 (.cells #[.int .i64 (p : Int), .int .i64 (p : Int)] 90)) _).trans (frame_grown hg9 (fun _ e => e)) (fun _ _ e => e)); have X9 := hid hat9; have T9 := hid (G9.out.blk R3.out.tab (fun e => by have := R3.out.ki gC (by rw [Hln.out]; exact e); rw [R3.out.cC] at this; cases this)); have c5 : w9.cell? ⟨gC, 5, none⟩ = some (.slice A ln c) := (T9.out.cell 5).trans (congrArg (fun z : Nat => some (Value.slice A z c)) Hln.out); have z5 := T9.out.frozen 5; clear hown9 hg9 hat9)
  go_end0
  have hz9 := G9.out.size
  obtain ⟨col3, R9, On9⟩ := R3.out.inl_ (v' := .slice A9 (ln + 1) k9) (hs := hi ++ [p]) (by rw [Hln.out]; exact G9.out) (by
    unfold OffAt
    rw [List.length_append, offRow_app, Hln.out, offpair]
    exact O9.out) (fun k hk => by
    rcases X9.out with e | e
    · rw [e] at hk
      rw [Hln.out]
      exact .inl hk
    · rw [e] at hk
      injection hk with hk
      have := (below_alloc w3 (.cells #[.int .i64 (p : Int), .int .i64 (p : Int)] 90)).size
      exact .inr (by rw [← hk]; exact this)) (by rw [List.length_append, Hln.out]; exact Nat.succ_le_succ Hlm.out)
  refine ⟨⟨_, rfl⟩, _, col3, R9, ?_, onto_trans On3.out On9 hz3⟩
  have hf9 : Frame (fun k => col2 k ≠ 0) w3 (w9.setCell ⟨gC, 5, none⟩ (.slice A9 (ln + 1) k9)) := (G9.out.weaken (fun k _ e => by have := R3.out.ki k (by rw [Hln.out]; exact e); rw [this]; decide)).trans (frame_mem (grown_set w9 gC 5 (.slice A9 (ln + 1) k9))) (fun k _ e => by subst e; rw [R3.out.cC]; decide)
  exact FX.out.trans hf9 (fun k hk e => (onto_ne On3.out k e).elim id (fun e2 => by omega))
end
section
open Go Go.RowKit
attribute [local go_sem ↓] Go.wp_at_zero Go.wp_at_succ
set_option maxRecDepth 100000
set_option linter.unusedSimpArgs false
set_option linter.unusedVariables false

theorem RDrv.base_ {w : World} {base base' gm L b n g m : Nat} {q : VQ} {F : Nat → Prop} (h : RDrv w base gm L b n g q m F) (hb : base' ≤ base) : RDrv w base' gm L b n g q m F := by
  obtain ⟨gt, vF, l, h⟩ := h
  exact ⟨gt, vF, l, ⟨h.mid.tab, h.mid.bsk, ⟨own_mono h.mid.fly.1 hb, h.mid.fly.2.1, fun p hp => ⟨own_mono (h.mid.fly.2.2 p hp).1 hb, (h.mid.fly.2.2 p hp).2⟩⟩, h.mid.fg, h.mid.ft, fun k hk => ⟨Nat.le_trans hb (h.mid.flt k hk).1, (h.mid.flt k hk).2⟩⟩, h.len, h.put, h.got, h.nod, h.mem, h.lm⟩
/-- colours for a card that was just made -/
theorem col_make (gC gm : Nat) (F1 F2 : Nat → Prop) (h1 : ¬ F1 gC) (h2 : ¬ F2 gC) (h3 : gm ≠ gC) (h4 : ¬ F1 gm) (h5 : ¬ F2 gm) (h6 : ∀ k, F1 k → ¬ F2 k) :
    ∃ col : Nat → Nat, col gC = 1 ∧ col gm = 6 ∧ (∀ k, F1 k → col k = 2) ∧ (∀ k, F2 k → col k = 3) ∧ (∀ k, col k = 2 → F1 k) ∧ (∀ k, col k = 3 → F2 k) ∧ ∀ k, col k ≠ 0 → k = gC ∨ k = gm ∨ F1 k ∨ F2 k := by
  refine ⟨fun k => if k = gC then 1 else if k = gm then 6 else @ite _ (F1 k) (Classical.propDecidable _) 2 (@ite _ (F2 k) (Classical.propDecidable _) 3 0), if_pos rfl, ?_, fun k hk => ?_, fun k hk => ?_, fun k hk => ?_, fun k hk => ?_, fun k hk => ?_⟩
  · simp only
    rw [if_neg h3]
    simp
  · simp only
    rw [if_neg (show ¬ k = gC from fun e => h1 (e ▸ hk)), if_neg (show ¬ k = gm from fun e => h4 (e ▸ hk)), if_pos hk]
  · simp only
    rw [if_neg (show ¬ k = gC from fun e => h2 (e ▸ hk)), if_neg (show ¬ k = gm from fun e => h5 (e ▸ hk)), if_neg (fun e => h6 k e hk), if_pos hk]
  · simp only at hk
    split at hk
    · cases hk
    · split at hk
      · cases hk
      · split at hk
        · assumption
        · split at hk <;> cases hk
  · simp only at hk
    split at hk
    · cases hk
    · split at hk
      · cases hk
      · split at hk
        · cases hk
        · split at hk
          · assumption
          · cases hk
  · simp only at hk
    split at hk
    · exact .inl (by assumption)
    · split at hk
      · exact .inr (.inl (by assumption))
      · split at hk
        · exact .inr (.inr (.inl (by assumption)))
        · split at hk
          · exact .inr (.inr (.inr (by assumption)))
          · exact absurd rfl hk
theorem off_none (w : World) (base : Nat) : OffAt w base (.slice none 0 0) [] := World.ownsRow_nil w base _ 2
def RNewCardPost (base gm L b n : Nat) (M : List UInt8) (w : World) (e : Ending) (w' : World) : Prop :=
  ∃ gC gi go vi vo col, e = .returned (.tuple #[.pointer (some ⟨gC, 0, none⟩), .int .i64 0]) ∧ RCard w' base gm L b n gC (vOffers b n (vNewM M b n, vq0 n) n).1 (vOffers b n (vNewM M b n, vq0 n) n).2 (vq0 n) n gi go vi vo (List.range n) [] col ∧ Frame (fun k => k = gm) w w' ∧ ∀ k, col k ≠ 0 → k = gm ∨ w.heap.size ≤ k
set_option maxHeartbeats 8000000 in
theorem rnewcard_yes (base gm L b n : Nat) (M : List UInt8) (w : World) (hfit : vFits L (b : Int) (n : Int) = true) (hL : L ≤ 1000000) (hM : M.length = L) (hm : MemAt w gm M) (hbase : base ≤ w.heap.size) (hgmb : base ≤ gm) :
    Calls Try.prog 11 #[.slice (some ⟨gm, 0, none⟩) L L, .int .i64 (b : Int), .int .i64 (n : Int)] w (RNewCardPost base gm L b n M w) := by
  obtain ⟨hok, hfb⟩ := fits_parts hfit
  have hn := okN_le hok
  have h0 := fun wy => rvsize_any (n : Int) wy
  rw [vSizeI_of hok] at h0
  have Hfit := hid hfit
  have HFi := hid (fun wy => rvfits5_any (some ⟨gm, 0, none⟩) L L (b : Int) (n : Int) wy hL)
  rw [hfit] at HFi
  have hSn : vSize n = 8 + 26 * n := rfl
  have HM := hid hm
  have Hgm := hid (Blk.lt hm)
  have HN1 := hid (fun wy (hy : Below w.heap.size w wy) => rnewdrv_yes gm L b n M wy (hm.keep hy) hM hok (by omega) hL)
  have hM2 : (patch M b (zeros (vSize n))).length = L := by rw [patch_len (by rw [zeros_len]; omega), hM]
  have HN2 := hid (fun wy (h2 : MemAt wy gm (patch M b (zeros (vSize n)))) => rnewdrv_yes gm L (b + vSize n) n (patch M b (zeros (vSize n))) wy h2 hM2 hok (by omega) hL)
  have HlN := hid (show (vNewM M b n).length = L by unfold vNewM; rw [patch_len (by rw [zeros_len, hM2]; omega), hM2])
  obtain ⟨S, hS⟩ : ∃ S, vSize n = S := ⟨_, rfl⟩
  obtain ⟨b2, hb2⟩ : ∃ x : Nat, b + S = x := ⟨_, rfl⟩
  have hb2I : (b : Int) + (S : Int) = (b2 : Int) := by omega
  have hbb : b ≤ 1000000 ∧ S ≤ 1000000 := by omega
  rw [hS] at h0
  have HSz := hid h0
  have Hb2 := hid (show b + vSize n = b2 by rw [hS]; exact hb2)
  rw [Hb2.out] at HN2
  clear hm hfit hok hfb h0 hS hb2 hM2 hSn
  go_enter Try.func11, Try.ntmps11
  go_upto_region 4 with (go_at_call 30; refine (HFi.out _).mono ?_; rintro e w' ⟨rfl, hw⟩; have hw := hw.symm; subst hw)
  have T1 := hid (Blk.new w 67 #[.pointer none, .pointer none, .slice (some ⟨gm, 0, none⟩) L L, .int .i64 (b : Int), .int .i64 (n : Int), .slice none 0 0, .slice none 0 0])
  have B1 := hid (below_alloc w (.cells #[.pointer none, .pointer none, .slice (some ⟨gm, 0, none⟩) L L, .int .i64 (b : Int), .int .i64 (n : Int), .slice none 0 0, .slice none 0 0] 67))
  obtain ⟨gC, hgC⟩ : ∃ x, w.heap.size = x := ⟨_, rfl⟩
  have HgC := hid hgC
  simp only [hgC] at T1 ⊢
  generalize w.alloc (.cells #[.pointer none, .pointer none, .slice (some ⟨gm, 0, none⟩) L L, .int .i64 (b : Int), .int .i64 (n : Int), .slice none 0 0, .slice none 0 0] 67) = w1 at *
  clear hgC
  go_upto_region 5 with (go_at_call 31; (with_reducible refine (HN1.out w1 B1.out).mono ?_); rintro e w2 ⟨gi, F1, rfl, hq, hm2, hf2⟩; have Q2 := hid hq; have M2 := hid hm2; have Fr2 := hid hf2; have T2 := hid (hf2.blk T1.out (fun e => by have := Hgm.out; have := HgC.out; omega)); have t0 : w2.cell? ⟨gC, 0, none⟩ = some (.pointer none) := T2.out.cell 0; have z0 := T2.out.frozen 0; clear hq hm2 hf2)
  have f3 := frame_mem (grown_set w2 gC 0 (.pointer (some ⟨gi, 0, none⟩)))
  have hz1 := B1.out.size
  have hz2 := Fr2.out.size
  have hgC1 := T1.out.lt
  have hF1 := hid (fun k (hk : F1 k) => (Q2.out.bd k hk))
  have Q3 := hid (Q2.out.frame f3 (fun k hk e => by have := (hF1.out k hk).1; omega))
  have M3 := hid (MemAt.frame M2.out f3 (fun e => by have := Hgm.out; have := HgC.out; omega))
  have T3 := hid (show Blk (w2.setCell ⟨gC, 0, none⟩ (.pointer (some ⟨gi, 0, none⟩))) gC 67 [.pointer (some ⟨gi, 0, none⟩), .pointer none, .slice (some ⟨gm, 0, none⟩) L L, .int .i64 (b : Int), .int .i64 (n : Int), .slice none 0 0, .slice none 0 0] from T2.out.set_ 0 _)
  have Fr3 := hid (((Below.frameF B1.out (fun k => k = gm)).trans Fr2.out (fun _ _ e => e)).trans f3 (fun k hk e => by have := HgC.out; omega))
  have hz3 := f3.size
  clear t0 z0 f3 T2 Q2 M2 Fr2
  generalize w2.setCell ⟨gC, 0, none⟩ (.pointer (some ⟨gi, 0, none⟩)) = w3 at *
  go_upto_region 6 with (first
    | (go_at_call 26; refine (HSz.out _).mono ?_; rintro e w' ⟨rfl, hw⟩; have hw := hw.symm; subst hw)
    | (go_at_call 31; (with_reducible refine (HN2.out w3 M3.out).mono ?_); rintro e w4 ⟨go, F2, rfl, hq, hm4, hf4⟩; have P4 := hid hq; have M4 := hid hm4; have Fr4 := hid hf4; have T4 := hid (hf4.blk T3.out (fun e => by have := Hgm.out; have := HgC.out; omega)); have t1 : w4.cell? ⟨gC, 1, none⟩ = some (.pointer none) := T4.out.cell 1; have z1 := T4.out.frozen 1; clear hq hm4 hf4))
  have f5 := frame_mem (grown_set w4 gC 1 (.pointer (some ⟨go, 0, none⟩)))
  have hz4 := Fr4.out.size
  have hF2 := hid (fun k (hk : F2 k) => (P4.out.bd k hk))
  have hF1b := hid (fun k (hk : F1 k) => (Q3.out.bd k hk))
  have Q5 := hid ((Q3.out.frame Fr4.out (fun k hk e => by have := (hF1.out k hk).1; have := Hgm.out; omega)).frame f5 (fun k hk e => by have := (hF1.out k hk).1; omega))
  have P5 := hid (P4.out.frame f5 (fun k hk e => by have := (hF2.out k hk).1; omega))
  have M5 := hid (MemAt.frame M4.out f5 (fun e => by have := Hgm.out; have := HgC.out; omega))
  have T5 := hid (show Blk (w4.setCell ⟨gC, 1, none⟩ (.pointer (some ⟨go, 0, none⟩))) gC 67 [.pointer (some ⟨gi, 0, none⟩), .pointer (some ⟨go, 0, none⟩), .slice (some ⟨gm, 0, none⟩) L L, .int .i64 (b : Int), .int .i64 (n : Int), .slice none 0 0, .slice none 0 0] from T4.out.set_ 1 _)
  have Fr5 := hid ((Fr3.out.trans Fr4.out (fun _ _ e => e)).trans f5 (fun k hk e => by have := HgC.out; omega))
  have hz5 := f5.size
  obtain ⟨col, k1, k6, k2, k3, k2', k3', k0⟩ := col_make gC gm F1 F2 (fun e => by have := (hF1.out gC e).1; omega) (fun e => by have := (hF2.out gC e).1; omega) (by have := Hgm.out; have := HgC.out; omega) (fun e => by have := (hF1.out gm e).1; have := Hgm.out; omega) (fun e => by have := (hF2.out gm e).1; have := Hgm.out; omega) (fun k e1 e2 => by have := (hF1b.out k e1).2; have := (hF2.out k e2).1; omega)
  have hbd : ∀ k, col k ≠ 0 → (base ≤ k ∧ k < (w4.setCell ⟨gC, 1, none⟩ (.pointer (some ⟨go, 0, none⟩))).heap.size) ∧ (k = gm ∨ w.heap.size ≤ k) := fun k hk => by
    have h1 := HgC.out
    have h2 := Hgm.out
    rcases k0 k hk with e | e | e | e
    · subst e; exact ⟨⟨by omega, by omega⟩, .inr (by omega)⟩
    · subst e; exact ⟨⟨hgmb, by omega⟩, .inl rfl⟩
    · have := Q5.out.bd k e; exact ⟨⟨by omega, this.2⟩, .inr (by omega)⟩
    · have := P5.out.bd k e; exact ⟨⟨by omega, this.2⟩, .inr (by omega)⟩
  have R5 := hid (show RCard (w4.setCell ⟨gC, 1, none⟩ (.pointer (some ⟨go, 0, none⟩))) base gm L b n gC (vNewM M b n) (vq0 n) (vq0 n) 0 gi go (.slice none 0 0) (.slice none 0 0) [] [] col from
    ⟨T5.out, (Q5.out.base_ (by have := HgC.out; omega)).mono (Nat.le_refl _) k2 (fun k hk => (hbd k (by rw [hk]; decide)).1), by rw [Hb2.out]; exact (P5.out.base_ (by have := HgC.out; omega)).mono (Nat.le_refl _) k3 (fun k hk => (hbd k (by rw [hk]; decide)).1),
      off_none _ _, off_none _ _, fun k hk => by simp [Value.ownBlock] at hk, fun k hk => by simp [Value.ownBlock] at hk, k1, k6, by unfold vNewM; rw [Hb2.out]; exact M5.out, HlN.out, fun k hk => (hbd k hk).1, Nat.le_refl _, Nat.le_refl _⟩)
  have Hcol := hid (fun k hk => (hbd k hk).2)
  clear t1 z1 f5 T4 T5 P4 P5 M4 M5 Fr4 T3 M3 Fr3 Q3 Q5 hbd k1 k2 k3 k6 k2' k3' k0 hF1 hF1b hF2 HN1 HN2 T1 B1
  generalize w4.setCell ⟨gC, 1, none⟩ (.pointer (some ⟨go, 0, none⟩)) = w5 at *
  go_wp2_with fail
  go_loopg [9] n (fun gk s9 wx => ∃ (p : Nat) (vi : Value) (col' : Nat → Nat), p + gk = n ∧ s9 = .int .i64 (p : Int) ∧ RCard wx base gm L b n gC (vOffers b n (vNewM M b n, vq0 n) p).1 (vOffers b n (vNewM M b n, vq0 n) p).2 (vq0 n) p gi go vi (.slice none 0 0) (List.range p) [] col' ∧ Frame (fun k => k = gm) w wx ∧ ∀ k, col' k ≠ 0 → k = gm ∨ w.heap.size ≤ k)
  case atStart => exact ⟨0, _, col, by omega, rfl, R5.out, Fr5.out, Hcol.out⟩
  case round =>
    obtain ⟨p, vi, col', hp, rfl, hR, hF, hc⟩ := hrel
    have HR := hid hR
    have HF := hid hF
    have HC := hid hc
    clear hR hF hc
    by_cases hlt : p < n
    · have hltI : (p : Int) < (n : Int) := by omega
      have HO := hid (roffer_at base gm L b n gC _ _ _ p gi go vi _ _ _ col' p wr HR.out Hfit.out hL (by omega) (by rw [vOffers_busy b n _ p (by omega) p, if_neg (by omega), if_pos hlt]) (fun j hj => by rw [vOffers_busy b n _ p (by omega) j, if_pos hj]) hlt)
      have Hms := hid (show n - (p + 1) < gk ∧ p + 1 + (n - (p + 1)) = n by omega)
      clear hp
      go_wp2_with (go_at_call 32; (with_reducible refine HO.out.mono ?_); rintro e w6 ⟨⟨u, rfl⟩, vi', col2, hr, hf, hon⟩; have R6 := hid hr; have F6 := hid hf; have O6 := hid hon; clear hr hf hon)
      go_roundg (n - (p + 1))
      case measure => exact Hms.out.1
      case rel =>
        have hzf := HF.out.size
        refine ⟨p + 1, vi', col2, Hms.out.2, by go_num, ?_, HF.out.trans F6.out (fun k hk e => (HC.out k e).elim id (fun e2 => by omega)), fun k hk => (onto_ne O6.out k hk).elim (HC.out k) (fun e => .inr (by omega))⟩
        have := R6.out
        rw [← List.range_succ] at this
        exact this
    · obtain rfl : p = n := by omega
      have hltI : ¬ (p : Int) < (p : Int) := by omega
      clear hp
      go_wp2_with fail
      go_ret2
      exact ⟨gC, gi, go, vi, _, col', rfl, HR.out, HF.out, HC.out⟩
end
end Go.Proofs.Ytgiegiobigdplaa
