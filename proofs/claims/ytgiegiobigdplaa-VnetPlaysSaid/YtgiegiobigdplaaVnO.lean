/- The program's port is made; a card and a port that do not fit. -/
import Derived.Test.YtgiegiobigdplaaVnM
namespace Go.Proofs.Ytgiegiobigdplaa
section
open Go Go.RowKit
attribute [local go_sem ↓] Go.wp_at_zero Go.wp_at_succ
set_option maxRecDepth 100000
set_option linter.unusedSimpArgs false
set_option linter.unusedVariables false

/-- the first k places for what comes in are offered -/
def vOffers (b n : Nat) (s : List UInt8 × VQ) : Nat → List UInt8 × VQ
  | 0 => s
  | k + 1 => (vAddM (vOffers b n s k).1 b n (vOffers b n s k).2.put k (vPlace b n k) 1526 2, (vOffers b n s k).2.add k)
def vNewM (M : List UInt8) (b n : Nat) : List UInt8 := patch (patch M b (zeros (vSize n))) (b + vSize n) (zeros (vSize n))
theorem vAddM_len (M : List UInt8) (b n put i addr len fl : Nat) (hn : 0 < n) (hi : i < n) (hb : b + vSize n ≤ M.length) : (vAddM M b n put i addr len fl).length = M.length := by
  have hm : put % n < n := Nat.mod_lt _ hn
  unfold vSize at hb
  unfold vAddM
  rw [putAt_len, putAt_len, putAt_len, putAt_len, putAt_len, putAt_len]
  all_goals (try rw [putAt_len])
  all_goals (try rw [putAt_len])
  all_goals (try rw [putAt_len])
  all_goals (try rw [putAt_len])
  all_goals (try rw [putAt_len])
  all_goals omega
theorem vOffers_len (b n : Nat) (M : List UInt8) (q : VQ) (hn : 0 < n) (hb : b + vSize n ≤ M.length) : ∀ k, k ≤ n → (vOffers b n (M, q) k).1.length = M.length
  | 0, _ => rfl
  | k + 1, hk => by
    have ih := vOffers_len b n M q hn hb k (by omega)
    show (vAddM _ _ _ _ _ _ _ _).length = _
    rw [vAddM_len _ _ _ _ _ _ _ _ hn (by omega) (by rw [ih]; exact hb), ih]
theorem vOffers_busy (b n : Nat) (M : List UInt8) : ∀ k, k ≤ n → ∀ j, (vOffers b n (M, vq0 n) k).2.busy[j]? = if j < k then some true else if j < n then some false else none
  | 0, _, j => by
    show (List.replicate n false)[j]? = _
    rw [List.getElem?_replicate, if_neg (Nat.not_lt_zero _)]
  | k + 1, hk, j => by
    have ih := vOffers_busy b n M k (by omega)
    have hl : k < (vOffers b n (M, vq0 n) k).2.busy.length := by
      have := ih k
      rw [if_neg (Nat.lt_irrefl _), if_pos (by omega)] at this
      exact (List.getElem?_eq_some_iff.1 this).1
    show ((vOffers b n (M, vq0 n) k).2.busy.set k true)[j]? = _
    rw [List.getElem?_set]
    by_cases e : k = j
    · subst e
      rw [if_pos rfl, if_pos hl, if_pos (by omega)]
    · rw [if_neg e, ih j]
      by_cases h1 : j < k
      · rw [if_pos h1, if_pos (by omega)]
      · rw [if_neg h1, if_neg (show ¬ j < k + 1 by omega)]
/-- the blocks of a card -/
structure CardIds where
  gdi : Nat
  gpi : Nat
  ghi : Nat
  gdo : Nat
  gpo : Nat
  gho : Nat
  FI : Nat → Prop
  FO : Nat → Prop
def CardIds.fi (I : CardIds) : Nat → Prop := fq I.FI I.gpi I.ghi
def CardIds.fo (I : CardIds) : Nat → Prop := fq I.FO I.gpo I.gho
def CardIds.foot (I : CardIds) (gC : Nat) : Nat → Prop := fun k => k = gC ∨ I.fi k ∨ I.fo k
def cardCells (gm L b n : Nat) (I : CardIds) : List Value :=
  [.slice (some ⟨gm, 0, none⟩) L L, .pointer (some ⟨I.gdi, 0, none⟩), .int .i64 ((b + 2 * vSize n : Nat) : Int), .slice (some ⟨I.gpi, 0, none⟩) n n, .map (some I.ghi),
    .pointer (some ⟨I.gdo, 0, none⟩), .int .i64 ((b + 2 * vSize n + n * 1528 : Nat) : Int), .slice (some ⟨I.gpo, 0, none⟩) n n, .map (some I.gho)]
/-- the program's card in block gC -/
structure CardAt (w : World) (base gm L b n gC : Nat) (M : List UInt8) (ci co : VQ) (m : Nat) (I : CardIds) : Prop where
  tab : Blk w gC 62 (cardCells gm L b n I)
  qi : QAt w base gm b n ci m I.gdi I.gpi I.ghi I.FI
  qo : QAt w base gm (b + vSize n) n co m I.gdo I.gpo I.gho I.FO
  mem : MemAt w gm M
  len : M.length = L
  apart : ∀ k, I.fi k → ¬ I.fo k
  ni : ¬ I.fi gC
  no : ¬ I.fo gC
  nm : ¬ I.foot gC gm
  lo : base ≤ gC
theorem DrvInv.more {w : World} {base gm b n g : Nat} {q : VQ} {m m' : Nat} {F : Nat → Prop} (h : DrvInv w base gm b n g q m F) (hm : m ≤ m') : DrvInv w base gm b n g q m' F := by
  obtain ⟨a1, a2, a3, h⟩ := h
  exact ⟨a1, a2, a3, h.tab, h.bs, h.len, h.map.mono hm, h.ch, h.fg, h.fb, h.fc, h.flt, h.put, h.got⟩
section
variable {w w' : World} {base gm L b n gC : Nat} {M : List UInt8} {ci co : VQ} {m : Nat} {I : CardIds}
theorem CardAt.qci (h : CardAt w base gm L b n gC M ci co m I) : QCells w gC 1 I.gdi (b + 2 * vSize n) I.gpi I.ghi n := ⟨h.tab.cell 1, h.tab.cell 2, h.tab.cell 3, h.tab.cell 4⟩
theorem CardAt.qco (h : CardAt w base gm L b n gC M ci co m I) : QCells w gC 5 I.gdo (b + 2 * vSize n + n * 1528) I.gpo I.gho n := ⟨h.tab.cell 5, h.tab.cell 6, h.tab.cell 7, h.tab.cell 8⟩
theorem CardAt.frame {G : Nat → Prop} (h : CardAt w base gm L b n gC M ci co m I) (hf : Frame G w w') (hd : ∀ k, I.foot gC k ∨ k = gm → ¬ G k) : CardAt w' base gm L b n gC M ci co m I :=
  ⟨hf.blk h.tab (hd _ (.inl (.inl rfl))), h.qi.frame hf (fun k hk => hd k (.inl (.inr (.inl hk)))), h.qo.frame hf (fun k hk => hd k (.inl (.inr (.inr hk)))), h.mem.frame hf (hd _ (.inr rfl)), h.len, h.apart, h.ni, h.no, h.nm, h.lo⟩
theorem CardAt.keep (h : CardAt w base gm L b n gC M ci co m I) (hb : Below w.heap.size w w') : CardAt w' base gm L b n gC M ci co m I := h.frame (G := fun _ => False) (Below.frameF hb _) (fun _ _ => id)
theorem CardAt.bd (h : CardAt w base gm L b n gC M ci co m I) (k : Nat) (hk : I.foot gC k) : base ≤ k ∧ k < w.heap.size := by
  rcases hk with rfl | hk | hk
  · exact ⟨h.lo, h.tab.lt⟩
  · exact h.qi.bd k hk
  · exact h.qo.bd k hk
/-- the memory is written by another -/
theorem CardAt.mem_ {M' : List UInt8} (h : CardAt w base gm L b n gC M ci co m I) (hf : Frame (fun k => k = gm) w w') (hm : MemAt w' gm M') (hl : M'.length = L) : CardAt w' base gm L b n gC M' ci co m I :=
  ⟨hf.blk h.tab (fun e => h.nm (.inl e.symm)), h.qi.frame hf (fun k hk e => h.nm (.inr (.inl (e ▸ hk)))), h.qo.frame hf (fun k hk e => h.nm (.inr (.inr (e ▸ hk)))), hm, hl, h.apart, h.ni, h.no, h.nm, h.lo⟩
/-- the queue of what comes in has gone on -/
theorem CardAt.in_ {M' : List UInt8} {ci' : VQ} {m' : Nat} {FI' : Nat → Prop} (h : CardAt w base gm L b n gC M ci co m I) (hf : Frame (fun k => I.fi k ∨ k = gm) w w') (hq : QAt w' base gm b n ci' m' I.gdi I.gpi I.ghi FI') (hn : ∀ k, FI' k → I.FI k ∨ w.heap.size ≤ k) (hm : MemAt w' gm M') (hl : M'.length = L) (hmm : m ≤ m') :
    CardAt w' base gm L b n gC M' ci' co m' { I with FI := FI' } ∧ ∀ k, ({ I with FI := FI' } : CardIds).foot gC k → I.foot gC k ∨ w.heap.size ≤ k := by
  have hnew : ∀ k, ({ I with FI := FI' } : CardIds).fi k → I.fi k ∨ w.heap.size ≤ k := fun k hk => by
    rcases hk with hk | hk
    · rcases hn k hk with e | e
      · exact .inl (.inl e)
      · exact .inr e
    · exact .inl (.inr hk)
  have hlt := fun k hk => (h.bd k hk).2
  have hgm : gm < w.heap.size := Blk.lt h.mem
  have hqo := h.qo.frame hf (fun k hk e => e.elim (fun e => h.apart k e hk) (fun e => h.nm (.inr (.inr (e ▸ hk)))))
  refine ⟨⟨hf.blk h.tab (fun e => e.elim h.ni (fun e => h.nm (.inl e.symm))), hq, ⟨hqo.drv.more hmm, hqo.pl, hqo.hm.mono hmm, hqo.np, hqo.nh, hqo.lp, hqo.lh⟩, hm, hl, fun k hk e => ?_, fun e => ?_, h.no, fun e => ?_, h.lo⟩, fun k hk => ?_⟩
  · rcases hnew k hk with e2 | e2
    · exact h.apart k e2 e
    · have := hlt k (.inr (.inr e)); omega
  · rcases hnew gC e with e2 | e2
    · exact h.ni e2
    · have := hlt gC (.inl rfl); omega
  · rcases e with e | e | e
    · exact h.nm (.inl e)
    · rcases hnew gm e with e2 | e2
      · exact h.nm (.inr (.inl e2))
      · omega
    · exact h.nm (.inr (.inr e))
  · rcases hk with hk | hk | hk
    · exact .inl (.inl hk)
    · exact (hnew k hk).imp_left (fun e => .inr (.inl e))
    · exact .inl (.inr (.inr hk))
/-- the queue of what goes out has gone on -/
theorem CardAt.out_ {M' : List UInt8} {co' : VQ} {m' : Nat} {FO' : Nat → Prop} (h : CardAt w base gm L b n gC M ci co m I) (hf : Frame (fun k => I.fo k ∨ k = gm) w w') (hq : QAt w' base gm (b + vSize n) n co' m' I.gdo I.gpo I.gho FO') (hn : ∀ k, FO' k → I.FO k ∨ w.heap.size ≤ k) (hm : MemAt w' gm M') (hl : M'.length = L) (hmm : m ≤ m') :
    CardAt w' base gm L b n gC M' ci co' m' { I with FO := FO' } ∧ ∀ k, ({ I with FO := FO' } : CardIds).foot gC k → I.foot gC k ∨ w.heap.size ≤ k := by
  have hnew : ∀ k, ({ I with FO := FO' } : CardIds).fo k → I.fo k ∨ w.heap.size ≤ k := fun k hk => by
    rcases hk with hk | hk
    · rcases hn k hk with e | e
      · exact .inl (.inl e)
      · exact .inr e
    · exact .inl (.inr hk)
  have hlt := fun k hk => (h.bd k hk).2
  have hgm : gm < w.heap.size := Blk.lt h.mem
  have hqi := h.qi.frame hf (fun k hk e => e.elim (fun e => h.apart k hk e) (fun e => h.nm (.inr (.inl (e ▸ hk)))))
  refine ⟨⟨hf.blk h.tab (fun e => e.elim h.no (fun e => h.nm (.inl e.symm))), ⟨hqi.drv.more hmm, hqi.pl, hqi.hm.mono hmm, hqi.np, hqi.nh, hqi.lp, hqi.lh⟩, hq, hm, hl, fun k hk e => ?_, h.ni, fun e => ?_, fun e => ?_, h.lo⟩, fun k hk => ?_⟩
  · rcases hnew k e with e2 | e2
    · exact h.apart k hk e2
    · have := hlt k (.inr (.inl hk)); omega
  · rcases hnew gC e with e2 | e2
    · exact h.no e2
    · have := hlt gC (.inl rfl); omega
  · rcases e with e | e | e
    · exact h.nm (.inl e)
    · exact h.nm (.inr (.inl e))
    · rcases hnew gm e with e2 | e2
      · exact h.nm (.inr (.inr e2))
      · omega
  · rcases hk with hk | hk | hk
    · exact .inl (.inl hk)
    · exact .inl (.inr (.inl hk))
    · exact (hnew k hk).imp_left (fun e => .inr (.inr e))
end
theorem QAt.base_ {w : World} {base base' gm b n : Nat} {q : VQ} {m gd gp gh : Nat} {FD : Nat → Prop} (h : QAt w base gm b n q m gd gp gh FD) (hb : base' ≤ base) : QAt w base' gm b n q m gd gp gh FD := ⟨h.drv.base_ hb, h.pl, h.hm, h.np, h.nh, Nat.le_trans hb h.lp, Nat.le_trans hb h.lh⟩
theorem cardinfo : (Try.prog.info? 62).map (·.size) = some 9 := by kernel_rfl
def NewCardPost (base gm L b n : Nat) (M : List UInt8) (w : World) (e : Ending) (w' : World) : Prop :=
  ∃ gC I, e = .returned (.tuple #[.pointer (some ⟨gC, 0, none⟩), .int .i64 0]) ∧ CardAt w' base gm L b n gC (vOffers b n (vNewM M b n, vq0 n) n).1 (vOffers b n (vNewM M b n, vq0 n) n).2 (vq0 n) n I ∧ Frame (fun k => k = gm) w w' ∧ ∀ k, I.foot gC k → w.heap.size ≤ k
set_option maxHeartbeats 4000000 in
theorem vnewcard_yes (base gm L b n : Nat) (M : List UInt8) (w : World) (hfit : vFits L (b : Int) (n : Int) = true) (hL : L ≤ 1000000) (hM : M.length = L) (hm : MemAt w gm M) (hbase : base ≤ w.heap.size) :
    Calls Try.prog 10 #[.slice (some ⟨gm, 0, none⟩) L L, .int .i64 (b : Int), .int .i64 (n : Int)] w (NewCardPost base gm L b n M w) := by
  have hok : okN (n : Int) = true := by unfold vFits at hfit; simp only [Bool.and_eq_true] at hfit; exact hfit.1.1
  have hn := okN_le hok
  have hfb : b + 2 * vSize n + 2 * n * 1528 ≤ L := by
    unfold vFits at hfit
    simp only [Bool.and_eq_true, decide_eq_true_eq] at hfit
    have := hfit.2
    rw [vAreaI_of hok] at this
    unfold vArea at this
    omega
  obtain ⟨S, hS⟩ : ∃ S, vSize n = S := ⟨_, rfl⟩
  have hSn : S = 8 + 26 * n := by rw [← hS]; rfl
  have h0 := fun wy => vsize_any (n : Int) wy
  rw [vSizeI_of hok, hS] at h0
  have HSz := hid h0
  have HFi := hid (fun wy => vfits_any (some ⟨gm, 0, none⟩) L L (b : Int) (n : Int) wy hL)
  rw [hfit] at HFi
  have HM := hid hm
  have HML := hid hM
  obtain ⟨f1, hf1⟩ : ∃ x : Nat, b + 2 * S = x := ⟨_, rfl⟩
  have hf1I : (b : Int) + 2 * (S : Int) = (f1 : Int) := by omega
  obtain ⟨b2, hb2⟩ : ∃ x : Nat, b + S = x := ⟨_, rfl⟩
  have hb2I : (b : Int) + (S : Int) = (b2 : Int) := by omega
  obtain ⟨f2, hf2⟩ : ∃ x : Nat, f1 + n * 1528 = x := ⟨_, rfl⟩
  have hf2I : (f1 : Int) + (n : Int) * 1528 = (f2 : Int) := by omega
  have Hok := hid hok
  have Hn := hid (And.intro hS (And.intro hf1 (And.intro hb2 hf2)))
  have HBg := hid (fun (fr bb : Nat) (Mx : List UInt8) (wy : World) (h1 : bb + vSize n ≤ L) (h2 : Mx.length = L) (h3 : MemAt wy gm Mx) => vbegin_yes gm L bb n fr Mx wy hok h1 hL h2 h3)
  have Hfb := hid (show b + 2 * S + 2 * n * 1528 ≤ L ∧ b2 + S ≤ L ∧ b + S ≤ L by rw [hS] at hfb; omega)
  have hbb : b ≤ 1000000 ∧ S ≤ 10000 ∧ b2 ≤ 1000000 ∧ f1 ≤ 1000000 ∧ f2 ≤ 1000000 := by rw [hS] at hfb; omega
  clear hm hM hfit hok hfb h0 hS hSn hf1 hb2 hf2
  go_enter Try.func10, Try.ntmps10
  go_upto_region 6 with (first
    | (go_at_call 27; refine (HFi.out _).mono ?_; rintro e w' ⟨rfl, hw⟩; have hw := hw.symm; subst hw)
    | (go_at_call 25; refine (HSz.out _).mono ?_; rintro e w' ⟨rfl, hw⟩; have hw := hw.symm; subst hw)
    | (go_at_call 28; (with_reducible refine (HBg.out f2 b2 (patch M b (zeros (vSize n))) _ (by rw [Hn.out.1]; exact Hfb.out.2.1) (by rw [patch_len (by rw [zeros_len, Hn.out.1, HML.out]; exact Hfb.out.2.2)]; exact HML.out) M3.out).mono ?_); rintro e w4 ⟨gdo, gpo, gho, FO, rfl, hq, hm, hf⟩; have Q4 := hid hq; have M4 := hid hm; have F4 := hid hf; clear hq hm hf)
    | (go_at_call 28; (with_reducible refine (HBg.out f1 b M _ (by rw [Hn.out.1]; exact Hfb.out.2.2) HML.out HM.out).mono ?_); rintro e w2 ⟨gdi, gpi, ghi, FI, rfl, hq, hm, hf⟩; have Q2 := hid hq; have M2 := hid hm; have F2 := hid hf; clear hq hm hf)
    | ((with_reducible show wpList _ _ _ (Oper.mk none _ _ _ _ _ :: _) _ _); refine wpList_storeBlk rfl _ _ _ rfl _ _ rfl rfl _ _ (Blk.new w4 _ _) qinfo rfl rfl ?_; intro w5 hblk hg hsz; have X5 := hid hblk; have Hb5 := hid (below_new_store hg); clear hblk hg hsz; (try simp only [Act.put]))
    | ((with_reducible show wpList _ _ _ (Oper.mk none _ _ _ _ _ :: _) _ _); refine wpList_storeBlk rfl _ _ _ rfl _ _ rfl rfl _ _ (Blk.new w2 _ _) qinfo rfl rfl ?_; intro w3 hblk hg hsz; have X3 := hid hblk; have Hb3 := hid (below_new_store hg); have M3 := hid (M2.out.keep Hb3.out); clear hblk hg hsz; (try simp only [Act.put])))
  have hgm := Blk.lt HM.out
  have f25 : Frame (fun k => k = gm) w2 w5 := ((Below.frameF Hb3.out (fun k => k = gm)).trans F4.out (fun _ _ e => e)).trans (Below.frameF Hb5.out (fun k => k = gm)) (fun _ _ e => e)
  have f05 : Frame (fun k => k = gm) w w5 := F2.out.trans f25 (fun _ _ e => e)
  have hz2 : w.heap.size ≤ w2.heap.size := F2.out.size
  have hz3 : w2.heap.size ≤ w3.heap.size := Hb3.out.size
  have hz4 : w3.heap.size ≤ w4.heap.size := F4.out.size
  have hz5 : w4.heap.size ≤ w5.heap.size := Hb5.out.size
  have hqi : ∀ k, fq FI gpi ghi k → w.heap.size ≤ k ∧ k < w2.heap.size := fun k hk => Q2.out.bd k hk
  have hqo : ∀ k, fq FO gpo gho k → w3.heap.size ≤ k ∧ k < w4.heap.size := fun k hk => Q4.out.bd k hk
  have Qi := hid (Q2.out.frame f25 (fun k hk e => by have := hqi k hk; omega))
  have Qo := hid ((Q4.out.keep Hb5.out).base_ (base' := w.heap.size) (by omega))
  have M5 := hid (M4.out.keep Hb5.out)
  have X3' := hid ((F4.out.blk X3.out (by omega)).keep Hb5.out)
  have F05 := hid f05
  have Hqi := hid hqi
  have Hqo := hid hqo
  have Hz := hid (And.intro hgm (And.intro hz2 (And.intro hz3 (And.intro hz4 hz5))))
  clear hgm f25 f05 hz2 hz3 hz4 hz5 hqi hqo X3 M3 M2 M4 Q2 Q4 F2 F4 Hb3 Hb5 HBg HFi HSz
  generalize w2.heap.size = g9 at *
  generalize w4.heap.size = g11 at *
  go_upto_region 9 with (first
    | ((with_reducible show wpList _ _ _ (Oper.mk (some 53) _ _ _ _ _ :: _) _ _); refine wpList_loadBlk rfl _ _ rfl g9 rfl _ _ _ X3'.out Try.underlying58 qinfo ?_)
    | ((with_reducible show wpList _ _ _ (Oper.mk (some 54) _ _ _ _ _ :: _) _ _); refine wpList_loadBlk rfl _ _ rfl g11 rfl _ _ _ X5.out Try.underlying58 qinfo ?_))
  obtain ⟨e1, e2, e3, e4⟩ := Hn.out
  have hI : ∀ (x y z u v t : Nat) (P Q : Nat → Prop), [Value.slice (some ⟨gm, 0, none⟩) L L, .pointer (some ⟨x, 0, none⟩), .int .i64 (f1 : Int), .slice (some ⟨y, 0, none⟩) n n, .map (some z), .pointer (some ⟨u, 0, none⟩), .int .i64 (f2 : Int), .slice (some ⟨v, 0, none⟩) n n, .map (some t)] = cardCells gm L b n ⟨x, y, z, u, v, t, P, Q⟩ := by
    intro x y z u v t P Q
    unfold cardCells
    rw [e1, e2, e4]
  have hbel := below_alloc w5 (.cells #[.slice (some ⟨gm, 0, none⟩) L L, .pointer (some ⟨gdi, 0, none⟩), .int .i64 (f1 : Int), .slice (some ⟨gpi, 0, none⟩) n n, .map (some ghi), .pointer (some ⟨gdo, 0, none⟩), .int .i64 (f2 : Int), .slice (some ⟨gpo, 0, none⟩) n n, .map (some gho)] 62)
  have hz := Hz.out
  have A6 := hid (show CardAt _ base gm L b n w5.heap.size (vNewM M b n) (vq0 n) (vq0 n) 0 ⟨gdi, gpi, ghi, gdo, gpo, gho, FI, FO⟩ from
    ⟨by rw [← hI]; exact Blk.new w5 62 #[.slice (some ⟨gm, 0, none⟩) L L, .pointer (some ⟨gdi, 0, none⟩), .int .i64 (f1 : Int), .slice (some ⟨gpi, 0, none⟩) n n, .map (some ghi), .pointer (some ⟨gdo, 0, none⟩), .int .i64 (f2 : Int), .slice (some ⟨gpo, 0, none⟩) n n, .map (some gho)],
      (Qi.out.keep hbel).base_ hbase, by rw [e1, e3]; exact (Qo.out.keep hbel).base_ hbase, by unfold vNewM; rw [e1, e3]; have := M5.out.keep hbel; rw [e1] at this; exact this,
      by unfold vNewM; rw [patch_len (by rw [patch_len (by rw [zeros_len, e1, HML.out]; exact Hfb.out.2.2), zeros_len, e1, e3, HML.out]; exact Hfb.out.2.1), patch_len (by rw [zeros_len, e1, HML.out]; exact Hfb.out.2.2)]; exact HML.out,
      fun k h1 h2 => by have := Hqi.out k h1; have := Hqo.out k h2; omega, fun h1 => by have := Hqi.out _ h1; omega, fun h1 => by have := Hqo.out _ h1; omega,
      fun h1 => by rcases h1 with h1 | h1 | h1; omega; have := Hqi.out _ h1; omega; have := Hqo.out _ h1; omega, by omega⟩)
  have F6 := hid (F05.out.trans (Below.frameF hbel (fun k => k = gm)) (fun _ _ e => e))
  have L6 := hid (show ∀ z, (⟨gdi, gpi, ghi, gdo, gpo, gho, FI, FO⟩ : CardIds).foot w5.heap.size z → w.heap.size ≤ z from fun z h1 => by
    rcases h1 with h1 | h1 | h1
    · omega
    · have := Hqi.out _ h1; omega
    · have := Hqo.out _ h1; omega)
  clear hbel hI Qi Qo M5 X3' X5 F05 Hqi Hqo hz
  generalize hI0 : (⟨gdi, gpi, ghi, gdo, gpo, gho, FI, FO⟩ : CardIds) = I0 at *
  generalize w5.heap.size = gC at *
  go_wp2_with fail
  go_loopg [14, 58] n (fun gk _ s58 wx => ∃ (k : Nat) (I : CardIds), k + gk = n ∧ s58 = .int .i64 (k : Int) ∧ CardAt wx base gm L b n gC (vOffers b n (vNewM M b n, vq0 n) k).1 (vOffers b n (vNewM M b n, vq0 n) k).2 (vq0 n) k I ∧ Frame (fun z => z = gm) w wx ∧ ∀ z, I.foot gC z → w.heap.size ≤ z)
  case atStart => exact ⟨0, I0, by omega, rfl, A6.out, F6.out, L6.out⟩
  case round =>
    obtain ⟨k, I, hgk, rfl, hA, hF, hL2⟩ := hrel
    have A7 := hid hA
    have F7 := hid hF
    have L7 := hid hL2
    clear hA hF hL2
    by_cases hkn : k < n
    · have hknI : (k : Int) < (n : Int) := by omega
      have HO := hid (show Calls Try.prog 29 #[.pointer (some ⟨gC, 1, none⟩), .int .i64 (k : Int), .int .i64 1526, .bool true] wr _ from
        voffer_at base gm b n gC 1 I.gdi (b + 2 * vSize n) I.gpi I.ghi k k (vPlace b n k) 1526 true 2 _ I.FI _ wr A7.out.qi A7.out.qci A7.out.mem (fun e => A7.out.nm (.inr (.inl e))) (fun e => A7.out.nm (.inl e.symm)) A7.out.ni Hok.out (by rw [A7.out.len, e1]; exact Hfb.out.2.2)
          (by rw [vOffers_busy b n _ k (by omega) k, if_neg (Nat.lt_irrefl _), if_pos hkn]) (fun j hj => by rw [vOffers_busy b n _ k (by omega) j, if_pos hj]) (by rw [e1]; omega) rfl (by decide) (by omega) rfl)
      have Hms := hid (show k + 1 + (n - (k + 1)) = n ∧ n - (k + 1) < gk from by omega)
      go_wp2_with (go_at_call 29; refine HO.out.mono ?_; rintro e w8 ⟨⟨u, rfl⟩, FI', hq, hm, hf, hnw⟩; have Q8 := hid hq; have M8 := hid hm; have F8 := hid hf; have N8 := hid hnw; clear hq hm hf hnw)
      go_roundg (n - (k + 1))
      case measure => exact Hms.out.2
      case rel =>
        have hl8 : (vAddM (vOffers b n (vNewM M b n, vq0 n) k).1 b n (vOffers b n (vNewM M b n, vq0 n) k).2.put k (vPlace b n k) 1526 2).length = L := by
          rw [vAddM_len _ _ _ _ _ _ _ _ (by omega) hkn (by rw [A7.out.len, e1]; exact Hfb.out.2.2)]
          exact A7.out.len
        have ha := A7.out.in_ F8.out Q8.out N8.out M8.out hl8 (Nat.le_succ k)
        refine ⟨k + 1, _, Hms.out.1, by go_num, ha.1, F7.out.trans F8.out (fun z hz e => ?_), fun z hz => ?_⟩
        · rcases e with e | e
          · have := L7.out z (.inr (.inl e)); omega
          · exact e
        · rcases ha.2 z hz with e | e
          · exact L7.out z e
          · exact Nat.le_trans F7.out.size e
    · obtain rfl : k = n := by omega
      have hknI : ¬ (k : Int) < (k : Int) := by omega
      go_wp2_with fail
      go_ret2
      exact ⟨gC, I, rfl, A7.out, F7.out, L7.out⟩
end
section
open Go Go.RowKit
attribute [local go_sem ↓] Go.wp_at_zero Go.wp_at_succ
set_option maxRecDepth 100000
set_option linter.unusedSimpArgs false
set_option linter.unusedVariables false

theorem vnewcard_no (gm L : Nat) (A : Option Addr) (base n : Int) (w : World) (hfit : vFits L base n = false) (hL : L ≤ 1000000) :
    Calls Try.prog 10 #[.slice A L L, .int .i64 base, .int .i64 n] w fun e w' => e = .returned (.tuple #[.pointer none, .int .i64 1]) ∧ w' = w := by
  have HFi := hid (fun wy => vfits_any A L L base n wy hL)
  rw [hfit] at HFi
  clear hfit
  go_enter Try.func10, Try.ntmps10
  go_wp2_with (go_at_call 27; refine (HFi.out _).mono ?_; rintro e w' ⟨rfl, hw⟩; have hw := hw.symm; subst hw)
  go_ret2
  exact ⟨rfl, rfl⟩
theorem vnewport_no (gm L : Nat) (A : Option Addr) (base n : Int) (w : World) (hfit : vFits L base n = false) (hL : L ≤ 1000000) :
    Calls Try.prog 12 #[.slice A L L, .int .i64 base, .int .i64 n] w fun e w' => e = .returned (.tuple #[.pointer none, .int .i64 1]) ∧ w' = w := by
  have HFi := hid (fun wy => vfits_any A L L base n wy hL)
  rw [hfit] at HFi
  clear hfit
  go_enter Try.func12, Try.ntmps12
  go_wp2_with (go_at_call 27; refine (HFi.out _).mono ?_; rintro e w' ⟨rfl, hw⟩; have hw := hw.symm; subst hw)
  go_ret2
  exact ⟨rfl, rfl⟩
def portFoot (gP gdi gdo : Nat) : Nat → Prop := fun k => k = gP ∨ k = gdi ∨ k = gdo
/-- the program's port in block gP -/
structure PortAt (w : World) (base gm L b n gP : Nat) (M : List UInt8) (pi po : VD) (gdi gdo : Nat) : Prop where
  tab : Blk w gP 75 [.slice (some ⟨gm, 0, none⟩) L L, .pointer (some ⟨gdi, 0, none⟩), .pointer (some ⟨gdo, 0, none⟩)]
  di : DevAt w base gm b n gdi pi
  do_ : DevAt w base gm (b + vSize n) n gdo po
  mem : MemAt w gm M
  len : M.length = L
  ne : gdi ≠ gdo
  lo : base ≤ gP
section
variable {w w' : World} {base gm L b n gP : Nat} {M M' : List UInt8} {pi po : VD} {gdi gdo : Nat}
theorem PortAt.frame {G : Nat → Prop} (h : PortAt w base gm L b n gP M pi po gdi gdo) (hf : Frame G w w') (hd : ∀ k, portFoot gP gdi gdo k ∨ k = gm → ¬ G k) : PortAt w' base gm L b n gP M pi po gdi gdo :=
  ⟨hf.blk h.tab (hd _ (.inl (.inl rfl))), h.di.frame hf (hd _ (.inl (.inr (.inl rfl)))), h.do_.frame hf (hd _ (.inl (.inr (.inr rfl)))), h.mem.frame hf (hd _ (.inr rfl)), h.len, h.ne, h.lo⟩
theorem PortAt.keep (h : PortAt w base gm L b n gP M pi po gdi gdo) (hb : Below w.heap.size w w') : PortAt w' base gm L b n gP M pi po gdi gdo := h.frame (G := fun _ => False) (Below.frameF hb _) (fun _ _ => id)
theorem PortAt.bd (h : PortAt w base gm L b n gP M pi po gdi gdo) (k : Nat) (hk : portFoot gP gdi gdo k) : base ≤ k ∧ k < w.heap.size := by
  rcases hk with rfl | rfl | rfl
  · exact ⟨h.lo, h.tab.lt⟩
  · exact ⟨h.di.lo, h.di.tab.lt⟩
  · exact ⟨h.do_.lo, h.do_.tab.lt⟩
theorem PortAt.nm (h : PortAt w base gm L b n gP M pi po gdi gdo) : ¬ portFoot gP gdi gdo gm := by
  rintro (e | e | e)
  · exact blk_ne h.tab h.mem (by decide) e.symm
  · exact blk_ne h.di.tab h.mem (by decide) e.symm
  · exact blk_ne h.do_.tab h.mem (by decide) e.symm
theorem PortAt.mem_ (h : PortAt w base gm L b n gP M pi po gdi gdo) (hf : Frame (fun k => k = gm) w w') (hm : MemAt w' gm M') (hl : M'.length = L) : PortAt w' base gm L b n gP M' pi po gdi gdo :=
  ⟨hf.blk h.tab (fun e => h.nm (.inl e.symm)), h.di.frame hf (fun e => h.nm (.inr (.inl e.symm))), h.do_.frame hf (fun e => h.nm (.inr (.inr e.symm))), hm, hl, h.ne, h.lo⟩
theorem PortAt.in_ {pi' : VD} (h : PortAt w base gm L b n gP M pi po gdi gdo) (hf : Frame (fun k => k = gdi ∨ k = gm) w w') (hd : DevAt w' base gm b n gdi pi') (hm : MemAt w' gm M') (hl : M'.length = L) : PortAt w' base gm L b n gP M' pi' po gdi gdo :=
  ⟨hf.blk h.tab (fun e => e.elim (fun e => blk_ne h.tab h.di.tab (by decide) e) (fun e => h.nm (.inl e.symm))), hd, h.do_.frame hf (fun e => e.elim (fun e => h.ne e.symm) (fun e => h.nm (.inr (.inr e.symm)))), hm, hl, h.ne, h.lo⟩
theorem PortAt.out_ {po' : VD} (h : PortAt w base gm L b n gP M pi po gdi gdo) (hf : Frame (fun k => k = gdo ∨ k = gm) w w') (hd : DevAt w' base gm (b + vSize n) n gdo po') (hm : MemAt w' gm M') (hl : M'.length = L) : PortAt w' base gm L b n gP M' pi po' gdi gdo :=
  ⟨hf.blk h.tab (fun e => e.elim (fun e => blk_ne h.tab h.do_.tab (by decide) e) (fun e => h.nm (.inl e.symm))), h.di.frame hf (fun e => e.elim (fun e => h.ne e) (fun e => h.nm (.inr (.inl e.symm)))), hd, hm, hl, h.ne, h.lo⟩
end
theorem DevAt.base_ {w : World} {base base' gm b n g : Nat} {d : VD} (h : DevAt w base gm b n g d) (hb : base' ≤ base) : DevAt w base' gm b n g d := ⟨h.tab, h.got, h.put, Nat.le_trans hb h.lo⟩
theorem fits_parts {L b n : Nat} (hfit : vFits L (b : Int) (n : Int) = true) : okN (n : Int) = true ∧ b + 2 * vSize n + 2 * n * 1528 ≤ L := by
  unfold vFits at hfit
  simp only [Bool.and_eq_true, decide_eq_true_eq] at hfit
  have h2 := hfit.2
  rw [vAreaI_of hfit.1.1] at h2
  unfold vArea at h2
  exact ⟨hfit.1.1, by omega⟩
def NewPortPost (base gm L b n : Nat) (M : List UInt8) (w : World) (e : Ending) (w' : World) : Prop :=
  ∃ gP gdi gdo, e = .returned (.tuple #[.pointer (some ⟨gP, 0, none⟩), .int .i64 0]) ∧ PortAt w' base gm L b n gP M ⟨0, 0⟩ ⟨0, 0⟩ gdi gdo ∧ Below w.heap.size w w' ∧ ∀ k, portFoot gP gdi gdo k → w.heap.size ≤ k
theorem vnewport_yes (base gm L b n : Nat) (M : List UInt8) (w : World) (hfit : vFits L (b : Int) (n : Int) = true) (hL : L ≤ 1000000) (hM : M.length = L) (hm : MemAt w gm M) (hbase : base ≤ w.heap.size) :
    Calls Try.prog 12 #[.slice (some ⟨gm, 0, none⟩) L L, .int .i64 (b : Int), .int .i64 (n : Int)] w (NewPortPost base gm L b n M w) := by
  obtain ⟨hok, hfb⟩ := fits_parts hfit
  have h0 := fun wy => vsize_any (n : Int) wy
  rw [vSizeI_of hok] at h0
  obtain ⟨S, hS⟩ : ∃ S, vSize n = S := ⟨_, rfl⟩
  rw [hS] at h0 hfb
  have HSz := hid h0
  have HFi := hid (fun wy => vfits_any (some ⟨gm, 0, none⟩) L L (b : Int) (n : Int) wy hL)
  rw [hfit] at HFi
  have HM := hid hm
  obtain ⟨b2, hb2⟩ : ∃ x : Nat, b + S = x := ⟨_, rfl⟩
  have hb2I : (b : Int) + (S : Int) = (b2 : Int) := by omega
  have HN1 := hid (vnewdev_yes gm L b n w hok (by rw [hS]; omega) hL)
  have HN2 := hid (fun wy => vnewdev_yes gm L b2 n wy hok (by rw [hS]; omega) hL)
  have hbb : b ≤ 1000000 ∧ S ≤ 1000000 := by omega
  have Hb2 := hid (And.intro hS hb2)
  clear hm hfit hok hfb h0 hS hb2
  go_enter Try.func12, Try.ntmps12
  go_wp2_with (first
    | (go_at_call 27; refine (HFi.out _).mono ?_; rintro e w' ⟨rfl, hw⟩; have hw := hw.symm; subst hw)
    | (go_at_call 25; refine (HSz.out _).mono ?_; rintro e w' ⟨rfl, hw⟩; have hw := hw.symm; subst hw)
    | (go_at_call 33; (with_reducible refine HN1.out.mono ?_); rintro e w2 ⟨gdi, rfl, hd, hb⟩; have D2 := hid hd; have B2 := hid hb; clear hd hb)
    | (go_at_call 33; (with_reducible refine (HN2.out w2).mono ?_); rintro e w3 ⟨gdo, rfl, hd, hb⟩; have D3 := hid hd; have B3 := hid hb; clear hd hb))
  go_ret2
  have b3 := B2.out.trans (B3.out.mono B2.out.size)
  have b4 := below_alloc' b3 (.cells #[.slice (some ⟨gm, 0, none⟩) L L, .pointer (some ⟨gdi, 0, none⟩), .pointer (some ⟨gdo, 0, none⟩)] 75)
  have d2 := (D2.out.keep B3.out).keep (below_alloc w3 (.cells #[.slice (some ⟨gm, 0, none⟩) L L, .pointer (some ⟨gdi, 0, none⟩), .pointer (some ⟨gdo, 0, none⟩)] 75))
  have d3 := D3.out.keep (below_alloc w3 (.cells #[.slice (some ⟨gm, 0, none⟩) L L, .pointer (some ⟨gdi, 0, none⟩), .pointer (some ⟨gdo, 0, none⟩)] 75))
  have hlt2 : gdi < w2.heap.size := D2.out.tab.lt
  have hlo3 : w2.heap.size ≤ gdo := D3.out.lo
  refine ⟨w3.heap.size, gdi, gdo, rfl, ⟨Blk.new w3 75 #[.slice (some ⟨gm, 0, none⟩) L L, .pointer (some ⟨gdi, 0, none⟩), .pointer (some ⟨gdo, 0, none⟩)], d2.base_ hbase, ?_, HM.out.keep b4, hM, by omega, ?_⟩, b4, ?_⟩
  · rw [Hb2.out.1, Hb2.out.2]
    exact d3.base_ (Nat.le_trans hbase B2.out.size)
  · have := b3.size; omega
  · rintro k (rfl | rfl | rfl)
    · exact b3.size
    · exact D2.out.lo
    · exact Nat.le_trans B2.out.size hlo3
end
end Go.Proofs.Ytgiegiobigdplaa
