/- The program's card sends. -/
import Derived.Test.YtgiegiobigdplaaVnO
namespace Go.Proofs.Ytgiegiobigdplaa
open Go Go.RowKit
attribute [local go_sem ↓] Go.wp_at_zero Go.wp_at_succ
set_option maxRecDepth 100000
set_option linter.unusedSimpArgs false
set_option linter.unusedVariables false

/-! ### plain: what was used, all taken back -/
theorem vUsed_next {M : List UInt8} {b n : Nat} {q q' : VQ} {r : Option (Nat × Nat)} (h : vUsed M b n q = some (r, q')) : q'.got < 65536 ∧ q'.put = q.put ∧ q'.busy.length = q.busy.length := by
  unfold vUsed at h
  split at h
  · cases h
  · simp only at h
    split at h
    · injection h with h
      injection h with h1 h2
      subst h2
      exact ⟨Nat.mod_lt _ (by decide), rfl, by simp⟩
    · injection h with h
      injection h with h1 h2
      subst h2
      exact ⟨Nat.mod_lt _ (by decide), rfl, rfl⟩
theorem vDrain_none {M : List UInt8} {b n : Nat} {q : VQ} (h : vUsed M b n q = none) (k : Nat) : vDrain M b n k q = q := by
  cases k with
  | zero => rfl
  | succ k => rw [vDrain, h]
theorem vDrain_step {M : List UInt8} {b n : Nat} {q q' : VQ} {r : Option (Nat × Nat)} (h : vUsed M b n q = some (r, q')) (k : Nat) : vDrain M b n (k + 1) q = vDrain M b n k q' := by rw [vDrain, h]
theorem vDrain_fuel (M : List UInt8) (b n : Nat) : ∀ (N : Nat) (q : VQ), q.got < 65536 → vLag M b n q = N → ∀ j k, N ≤ j → N ≤ k → vDrain M b n j q = vDrain M b n k q := by
  intro N
  induction N with
  | zero =>
    intro q hq hl j k _ _
    rcases vUsed_cases M b n q hq with ⟨hu, _⟩ | ⟨q', _, _, h⟩ | ⟨_, _, q', _, _, _, h, _⟩
    · rw [vDrain_none hu, vDrain_none hu]
    · omega
    · omega
  | succ N ih =>
    intro q hq hl j k hj hk
    have hlag := fun (e : vLag M b n q = 0) => show False by omega
    obtain ⟨j, rfl⟩ : ∃ x, j = x + 1 := ⟨j - 1, by omega⟩
    obtain ⟨k, rfl⟩ : ∃ x, k = x + 1 := ⟨k - 1, by omega⟩
    rcases vUsed_cases M b n q hq with ⟨_, h0⟩ | ⟨q', hu, _, h⟩ | ⟨_, _, q', hu, _, _, h, _⟩
    · exact (hlag h0).elim
    · rw [vDrain_step hu, vDrain_step hu]
      exact ih q' (vUsed_next hu).1 (by omega) j k (by omega) (by omega)
    · rw [vDrain_step hu, vDrain_step hu]
      exact ih q' (vUsed_next hu).1 (by omega) j k (by omega) (by omega)
/-- back, and what all the backs come to -/
theorem vBack_spec (M : List UInt8) (b n : Nat) : ∀ (k : Nat) (q : VQ), q.got < 65536 → vLag M b n q < k →
    (∃ q', vBack M b n k q = (none, q') ∧ q'.got < 65536 ∧ q'.put = q.put ∧ q'.busy = q.busy ∧ vUsed M b n q' = none ∧ ∀ j, vLag M b n q ≤ j → vDrain M b n j q = q')
      ∨ ∃ p l q', vBack M b n k q = (some (p, l), q') ∧ q'.got < 65536 ∧ q'.put = q.put ∧ q.busy[p]? = some true ∧ q'.busy = q.busy.set p false ∧ vLag M b n q' + 1 ≤ vLag M b n q ∧ ∀ j, vLag M b n q ≤ j → vDrain M b n j q = vDrain M b n j q' := by
  intro k
  induction k with
  | zero => intro q _ h; omega
  | succ k ih =>
    intro q hq hk
    rcases vUsed_cases M b n q hq with ⟨hu, h0⟩ | ⟨q2, hu, hb, h⟩ | ⟨p, l, q2, hu, hp, hb, h, _⟩
    · exact .inl ⟨q, vBack_none hu, hq, rfl, rfl, hu, fun j _ => vDrain_none hu j⟩
    · have hn := vUsed_next hu
      have hd : ∀ j, vLag M b n q ≤ j → vDrain M b n j q = vDrain M b n (j - 1) q2 := fun j hj => by
        obtain ⟨j, rfl⟩ : ∃ x, j = x + 1 := ⟨j - 1, by omega⟩
        rw [vDrain_step hu]
        rfl
      rcases ih q2 hn.1 (by omega) with ⟨q', e1, e2, e3, e4, e5, e6⟩ | ⟨p, l, q', e1, e2, e3, e4, e5, e6, e7⟩
      · exact .inl ⟨q', by rw [vBack_skip hu, e1], e2, e3.trans hn.2.1, e4.trans hb, e5, fun j hj => by rw [hd j hj]; exact e6 _ (by omega)⟩
      · exact .inr ⟨p, l, q', by rw [vBack_skip hu, e1], e2, e3.trans hn.2.1, by rw [← hb]; exact e4, by rw [e5, hb], by omega, fun j hj => by
          rw [hd j hj, e7 _ (by omega)]
          exact vDrain_fuel M b n _ q' e2 rfl _ _ (by omega) (by omega)⟩
    · have hn := vUsed_next hu
      exact .inr ⟨p, l, q2, vBack_some hu, hn.1, hn.2.1, hp, hb, by omega, fun j hj => by
        obtain ⟨j, rfl⟩ : ∃ x, j = x + 1 := ⟨j - 1, by omega⟩
        rw [vDrain_step hu]
        exact vDrain_fuel M b n _ q2 hn.1 rfl _ _ (by omega) (by omega)⟩
theorem vDrain_len (M : List UInt8) (b n : Nat) : ∀ (k : Nat) (q : VQ), (vDrain M b n k q).busy.length = q.busy.length := by
  intro k
  induction k with
  | zero => intro q; rfl
  | succ k ih =>
    intro q
    rcases hu : vUsed M b n q with _ | ⟨r, q'⟩
    · rw [vDrain_none hu]
    · rw [vDrain_step hu, ih, (vUsed_next hu).2.2]
/-! ### plain: the first that is free -/
theorem vFirst_true {busy : List Bool} {k : Nat} (h : busy[k]? = some true) (hk : k ≤ vFirst busy) : k + 1 ≤ vFirst busy := by
  rcases Nat.lt_or_ge k (vFirst busy) with h1 | h1
  · exact h1
  · have e : k = vFirst busy := by omega
    obtain ⟨hl, hv⟩ := List.getElem?_eq_some_iff.1 h
    have := List.findIdx_getElem (p := fun x => !x) (xs := busy) (w := by show vFirst busy < _; omega)
    have e2 : busy.findIdx (fun x => !x) = k := e.symm
    simp only [e2, hv] at this
    simp at this
theorem vFirst_false {busy : List Bool} {k : Nat} (h : busy[k]? = some false) (hk : k ≤ vFirst busy) : vFirst busy = k := by
  rcases Nat.lt_or_ge k (vFirst busy) with h1 | h1
  · obtain ⟨hl, hv⟩ := List.getElem?_eq_some_iff.1 h
    have := List.not_of_lt_findIdx (p := fun x => !x) (xs := busy) (i := k) h1
    rw [hv] at this
    simp at this
  · omega
theorem vFirst_le (busy : List Bool) : vFirst busy ≤ busy.length := List.findIdx_le_length
theorem vFirst_is {busy : List Bool} (h : vFirst busy < busy.length) : busy[vFirst busy]? = some false := by
  have := List.findIdx_getElem (p := fun x => !x) (xs := busy) (w := h)
  rw [List.getElem?_eq_getElem h]
  unfold vFirst at *
  simpa using this
theorem vFirst_before {busy : List Bool} {j : Nat} (h : j < vFirst busy) : busy[j]? = some true := by
  have hl : j < busy.length := Nat.lt_of_lt_of_le h (vFirst_le _)
  have := List.not_of_lt_findIdx (p := fun x => !x) (xs := busy) (i := j) h
  rw [List.getElem?_eq_getElem hl]
  simpa using this
theorem patch_patch {M a f : List UInt8} {p : Nat} (h : p + (a ++ f).length ≤ M.length) : patch (patch M p a) (p + a.length) f = patch M p (a ++ f) := by
  rw [List.length_append] at h
  have h1 : (M.take p).length = p := by rw [List.length_take]; omega
  have h2 : M.take p ++ (a ++ M.drop (p + a.length)) = (M.take p ++ a) ++ M.drop (p + a.length) := (List.append_assoc ..).symm
  have h3 : (M.take p ++ a).length = p + a.length := by rw [List.length_append, h1]
  unfold patch
  rw [h2, List.length_append]
  rw [List.take_append_of_le_length (by omega), List.take_of_length_le (by omega), List.drop_append, List.drop_of_length_le (by omega), List.nil_append, h3, List.drop_drop, List.append_assoc, List.append_assoc]
  congr 4
  omega
theorem vFrame_len (f : List UInt8) : (vFrame f).length = 12 + f.length := by unfold vFrame; rw [List.length_append, List.length_replicate]

/-! ### the walks -/
theorem vframed_any (A : Option Addr) (k cap : Nat) (w : World) (hk : k ≤ 1000000) :
    Calls Try.prog 35 #[.slice A k cap] w fun e w' => e = .returned (.bool (decide (14 ≤ k ∧ k ≤ 1514))) ∧ w' = w := by
  obtain ⟨X, hX⟩ : ∃ X, decide (14 ≤ k ∧ k ≤ 1514) = X := ⟨_, rfl⟩
  rw [hX]
  have HX := hid hX
  clear hX
  by_cases h1 : 14 ≤ k
  · have h1I : (14 : Int) ≤ (k : Int) := by omega
    by_cases h2 : k ≤ 1514
    · have h2I : (k : Int) ≤ 1514 := by omega
      have hx : X = true := by rw [← HX.out]; exact decide_eq_true ⟨h1, h2⟩
      subst hx
      go_enter Try.func35, Try.ntmps35
      go_wp2_with fail
      go_ret
      exact ⟨rfl, rfl⟩
    · have h2I : ¬ (k : Int) ≤ 1514 := by omega
      have hx : X = false := by rw [← HX.out]; exact decide_eq_false (fun h => h2 h.2)
      subst hx
      go_enter Try.func35, Try.ntmps35
      go_wp2_with fail
      go_ret
      exact ⟨rfl, rfl⟩
  · have h1I : ¬ (14 : Int) ≤ (k : Int) := by omega
    have hx : X = false := by rw [← HX.out]; exact decide_eq_false (fun h => h1 h.1)
    subst hx
    go_enter Try.func35, Try.ntmps35
    go_wp2_with fail
    go_ret
    exact ⟨rfl, rfl⟩
def vFirstI (busy : List Bool) : Int := if vFirst busy < busy.length then (vFirst busy : Int) else -1
theorem vindex_at (gb n : Nat) (busy : List Bool) (w : World) (hl : busy.length = n) (hn : n ≤ 256) (hb : Blk w gb 4 (busy.map Value.bool)) :
    Calls Try.prog 37 #[.slice (some ⟨gb, 0, none⟩) n n, .bool false] w fun e w' => e = .returned (.int .i64 (vFirstI busy)) ∧ w' = w := by
  have HB := hid hb
  have Hl := hid hl
  obtain ⟨X, hX⟩ : ∃ X, vFirstI busy = X := ⟨_, rfl⟩
  rw [hX]
  have HX := hid hX
  clear hb hl hX
  go_enter Try.func37, Try.ntmps37
  go_wp2_with fail
  go_loopg [5, 8] n (fun gk s5 s8 wx => ∃ k : Nat, k + gk = n ∧ s8 = .int .i64 (k : Int) ∧ k ≤ vFirst busy ∧ wx = w)
  case atStart => exact ⟨0, by omega, rfl, Nat.zero_le _, rfl⟩
  case round =>
    obtain ⟨k, hk, rfl, hkf, hw⟩ := hrel
    have hw := hw.symm
    subst hw
    by_cases hlt : k < n
    · have hltI : (k : Int) < (n : Int) := by omega
      obtain ⟨bb, hbb⟩ : ∃ bb, busy[k]? = some bb := ⟨_, List.getElem?_eq_getElem (by rw [Hl.out]; exact hlt)⟩
      have hcell : w.cell? ⟨gb, k, none⟩ = some (.bool bb) := by rw [HB.out.cell k, List.getElem?_map, hbb]; rfl
      have Hms := hid (show n - (k + 1) < gk ∧ k + 1 + (n - (k + 1)) = n by omega)
      have Hbb := hid hbb
      have Hkf := hid hkf
      clear hbb hkf
      cases bb with
      | true =>
        go_wp2_with fail
        go_roundg (n - (k + 1))
        case measure => exact Hms.out.1
        case rel => exact ⟨k + 1, Hms.out.2, by go_num, vFirst_true Hbb.out Hkf.out, rfl⟩
      | false =>
        have e : (k : Int) = X := by
          rw [← HX.out]
          have := vFirst_false Hbb.out Hkf.out
          unfold vFirstI
          rw [this, if_pos (by rw [Hl.out]; exact hlt)]
        have He := hid e
        clear e
        go_wp2_with fail
        go_ret
        exact ⟨congrArg (fun x => Ending.returned (Value.int .i64 x)) He.out, rfl⟩
    · obtain rfl : k = n := by omega
      have hltI : ¬ (k : Int) < (k : Int) := by omega
      have e : (-1 : Int) = X := by
        rw [← HX.out]
        unfold vFirstI
        rw [if_neg (by rw [Hl.out]; omega)]
      have He := hid e
      clear e hkf
      go_wp2_with fail
      go_ret
      exact ⟨congrArg (fun x => Ending.returned (Value.int .i64 x)) He.out, rfl⟩
def SendPost (base gm L b n gC : Nat) (s : VnSt) (m : Nat) (I : CardIds) (f : List UInt8) (w : World) (e : Ending) (w' : World) : Prop :=
  ∃ m' I', e = .returned (.int .i64 (vSend b n s f).1) ∧ CardAt w' base gm L b n gC (vSend b n s f).2.M (vSend b n s f).2.ci (vSend b n s f).2.co m' I' ∧ m' ≤ m + 1 ∧ Frame (fun k => I.foot gC k ∨ k = gm) w w' ∧ ∀ k, I'.foot gC k → I.foot gC k ∨ w.heap.size ≤ k
theorem vsend_bad (base gm L b n gC : Nat) (s : VnSt) (m : Nat) (I : CardIds) (A : Option Addr) (cap : Nat) (f : List UInt8) (w : World) (h : CardAt w base gm L b n gC s.M s.ci s.co m I) (hlen : f.length ≤ 100000) (hbad : f.length < 14 ∨ f.length > 1514) :
    Calls Try.prog 14 #[.pointer (some ⟨gC, 0, none⟩), .slice A f.length cap] w (SendPost base gm L b n gC s m I f w) := by
  have HP := hid (show SendPost base gm L b n gC s m I f w (.returned (.int .i64 14)) w from by
    unfold SendPost vSend
    rw [if_pos hbad]
    exact ⟨m, I, rfl, h, Nat.le_succ m, Frame.refl _ _, fun k hk => .inl hk⟩)
  have HF := hid (fun wy => vframed_any A f.length cap wy (by omega))
  rw [decide_eq_false (show ¬ (14 ≤ f.length ∧ f.length ≤ 1514) by omega)] at HF
  generalize f.length = k at *
  clear h hbad
  go_enter Try.func14, Try.ntmps14
  go_wp2_with (go_at_call 35; refine (HF.out _).mono ?_; rintro e w' ⟨rfl, hw⟩; have hw := hw.symm; subst hw)
  go_ret
  exact HP.out
theorem vAddM_patch_fit {b n i : Nat} {L : Nat} (hi : i < n) (hfb : b + 2 * vSize n + 2 * n * 1528 ≤ L) (k : Nat) (hk : k ≤ 1528) : vPlace b n (n + i) + k ≤ L := by
  unfold vPlace
  omega
theorem vSend_yes {b n i : Nat} {s : VnSt} {f : List UInt8} {Q : VQ} (h1 : ¬ (f.length < 14 ∨ f.length > 1514)) (hQ : vDrain s.M (b + vSize n) n 65536 s.co = Q) (hi : vFirst Q.busy = i) (hlt : i < n) :
    vSend b n s f = (0, { s with M := vAddM (patch s.M (vPlace b n (n + i)) (vFrame f)) (b + vSize n) n Q.put i (vPlace b n (n + i)) (12 + f.length) 0, co := Q.add i }) := by
  unfold vSend
  rw [if_neg h1]
  simp only [hQ, hi, if_pos hlt]
theorem vSend_no {b n : Nat} {s : VnSt} {f : List UInt8} {Q : VQ} (h1 : ¬ (f.length < 14 ∨ f.length > 1514)) (hQ : vDrain s.M (b + vSize n) n 65536 s.co = Q) (hge : ¬ vFirst Q.busy < n) :
    vSend b n s f = (7, { s with co := Q }) := by
  unfold vSend
  rw [if_neg h1]
  simp only [hQ, if_neg hge]
set_option maxHeartbeats 4000000 in
theorem vsend_good (base gm L b n gC : Nat) (s : VnSt) (m : Nat) (I : CardIds) (A : Option Addr) (cap : Nat) (f : List UInt8) (w : World) (h : CardAt w base gm L b n gC s.M s.ci s.co m I) (hfit : vFits L (b : Int) (n : Int) = true) (hL : L ≤ 1000000) (hm1 : m < 1000000000)
    (hf : ∀ w', Frame (fun k => I.foot gC k ∨ k = gm) w w' → Bs w' (.slice A f.length cap) f) (hlo : 14 ≤ f.length) (hhi : f.length ≤ 1514) :
    Calls Try.prog 14 #[.pointer (some ⟨gC, 0, none⟩), .slice A f.length cap] w (SendPost base gm L b n gC s m I f w) := by
  obtain ⟨hok, hfb⟩ := fits_parts hfit
  have hn := okN_le hok
  have HF := hid (fun wy => vframed_any A f.length cap wy (by omega))
  rw [decide_eq_true (show 14 ≤ f.length ∧ f.length ≤ 1514 from ⟨hlo, hhi⟩)] at HF
  have HC := hid h
  have Hok := hid hok
  have HFr := hid hf
  have Hm1 := hid hm1
  have HA := hid (And.intro hfit hfb)
  obtain ⟨l, hl⟩ : ∃ l, f.length = l := ⟨_, rfl⟩
  have Hl := hid hl
  rw [hl] at HF HFr hlo hhi ⊢
  obtain ⟨Q, hQ⟩ : ∃ Q, vDrain s.M (b + vSize n) n 65536 s.co = Q := ⟨_, rfl⟩
  have HQ := hid hQ
  obtain ⟨fr, hfr⟩ : ∃ x, b + 2 * vSize n + n * 1528 = x := ⟨_, rfl⟩
  have Hfr := hid hfr
  have hfrL : fr ≤ 1000000 := by omega
  clear h hok hf hm1 hl hQ hfit hfb hfr
  go_enter Try.func14, Try.ntmps14
  go_wp2_with (go_at_call 35; refine (HF.out _).mono ?_; rintro e w' ⟨rfl, hw⟩; have hw := hw.symm; subst hw)
  go_loopg [5] 65540 (fun gk s5 wr => ∃ q1 : VQ, QAt wr base gm (b + vSize n) n q1 m I.gdo I.gpo I.gho I.FO ∧ Frame I.fo w wr ∧ vDrain s.M (b + vSize n) n 65536 q1 = Q ∧ ((∃ p : Nat, s5 = .int .i64 (p : Int) ∧ p ≤ 4294967296 ∧ vLag s.M (b + vSize n) n q1 + 2 ≤ gk) ∨ s5 = .int .i64 (-1) ∧ q1 = Q))
  case atStart => exact ⟨s.co, HC.out.qo, Frame.refl _ _, HQ.out, .inl ⟨0, rfl, by omega, by have := vLag_lt s.M (b + vSize n) n s.co; omega⟩⟩
  case round =>
    obtain ⟨q1, hq1, hfw, hR1, hs5⟩ := hrel
    have Q1 := hid hq1
    have R1 := hid hR1
    have Fr := hid hfw
    have HCells := HC.out.qco
    rw [Hfr.out] at HCells
    have C1 := hid (HCells.frame hfw HC.out.no)
    have M1 := hid (HC.out.mem.frame hfw (fun e => HC.out.nm (.inr (.inr e))))
    clear hq1 hR1 hfw HCells
    rcases hs5 with ⟨p, rfl, hp, hlag⟩ | ⟨rfl, hq⟩
    · have Lag := hid hlag
      obtain ⟨R, hRb⟩ : ∃ R, vBack s.M (b + vSize n) n 65536 q1 = R := ⟨_, rfl⟩
      have HB := hid (vqback_at base gm (b + vSize n) n gC 5 I.gdo fr I.gpo I.gho m q1 I.FO s.M wr Q1.out C1.out M1.out (fun e => HC.out.nm (.inr (.inr e))) HC.out.no Hok.out (by rw [HC.out.len]; have := HA.out.2; omega) R hRb)
      have hsp := vBack_spec s.M (b + vSize n) n 65536 q1 Q1.out.got (vLag_lt _ _ _ _)
      have hlt := vLag_lt s.M (b + vSize n) n q1
      rw [hRb] at hsp
      have hp0 : (0 : Int) ≤ (p : Int) := by omega
      clear hRb hlag
      rcases hsp with ⟨q', rfl, _, _, _, hu, hd⟩ | ⟨pp, ll, q', rfl, _, _, hbp, _, hlg, hd⟩
      · have e : q' = Q := by rw [← R1.out]; exact (hd 65536 (by omega)).symm
        have Hu := hid hu
        have He := hid e
        clear hu hd e hlt
        go_wp2_with (go_at_call 36; refine HB.out.mono ?_; rintro e w2 ⟨rfl, hq2, hf2⟩; have Q2 := hid hq2; have F2 := hid hf2; clear hq2 hf2; unfold backV)
        go_roundg (gk - 1)
        case measure => have := Lag.out; omega
        case rel => exact ⟨q', Q2.out, Fr.out.trans F2.out (fun _ _ e => e), by rw [He.out, ← R1.out, vDrain_fuel _ _ _ _ _ Q1.out.got rfl _ 65536 (Nat.le_of_lt (vLag_lt _ _ _ _)) (Nat.le_of_lt (vLag_lt _ _ _ _)), R1.out]; exact vDrain_none (by rw [← He.out]; exact Hu.out) _, .inr ⟨rfl, He.out⟩⟩
      · have hpp : pp < n := by have := (List.getElem?_eq_some_iff.1 hbp).1; rw [Q1.out.len] at this; exact this
        go_wp2_with (go_at_call 36; refine HB.out.mono ?_; rintro e w2 ⟨rfl, hq2, hf2⟩; have Q2 := hid hq2; have F2 := hid hf2; clear hq2 hf2; unfold backV)
        go_roundg (gk - 1)
        case measure => have := Lag.out; omega
        case rel => exact ⟨q', Q2.out, Fr.out.trans F2.out (fun _ _ e => e), by rw [← hd 65536 (by omega)]; exact R1.out, .inl ⟨pp, rfl, by omega, by have := Lag.out; omega⟩⟩
    · subst hq
      have c7 : wr.cell? ⟨gC, 7, none⟩ = some (.slice (some ⟨I.gpo, 0, none⟩) n n) := C1.out.c2
      have c0 : wr.cell? ⟨gC, 0, none⟩ = some (.slice (some ⟨gm, 0, none⟩) L L) := cell_frame Fr.out (HC.out.tab.cell 0) HC.out.no
      have HI := hid (vindex_at I.gpo n q1.busy wr Q1.out.len (by omega) Q1.out.pl)
      have hqlen := Q1.out.len
      by_cases hfree : vFirst q1.busy < n
      · have hi := vFirst_is (by rw [hqlen]; exact hfree)
        have hbef := fun j => vFirst_before (busy := q1.busy) (j := j)
        have Hs := hid (vSend_yes (b := b) (n := n) (s := s) (f := f) (by rw [Hl.out]; omega) HQ.out rfl hfree)
        unfold vFirstI at HI
        rw [if_pos (by rw [hqlen]; exact hfree)] at HI
        obtain ⟨i, hii⟩ : ∃ i, vFirst q1.busy = i := ⟨_, rfl⟩
        rw [hii] at HI hi hbef hfree Hs
        obtain ⟨t, ht⟩ : ∃ t, fr + i * 1528 = t := ⟨_, rfl⟩
        have hpl : vPlace b n (n + i) = t := by unfold vPlace; have := Hfr.out; omega
        have htL : t + 1528 ≤ L := by have := HA.out.2; have := Hfr.out; omega
        have HAt := hid (vqat_at gC 5 I.gdo fr I.gpo I.gho n i wr C1.out hfrL (by omega))
        obtain ⟨k12, hk⟩ : ∃ k, 12 + l = k := ⟨_, rfl⟩
        have hkI : (12 : Int) + (l : Int) = (k12 : Int) := by omega
        rw [hpl, Hl.out, hk] at Hs
        rw [ht] at HAt
        have HO := hid (fun wy (M4 : List UInt8) (h1 : QAt wy base gm (b + vSize n) n q1 m I.gdo I.gpo I.gho I.FO) (h2 : QCells wy gC 5 I.gdo fr I.gpo I.gho n) (h3 : MemAt wy gm M4) (h4 : M4.length = L) =>
          voffer_at base gm (b + vSize n) n gC 5 I.gdo fr I.gpo I.gho m i t k12 false 0 q1 I.FO M4 wy h1 h2 h3 (fun e => HC.out.nm (.inr (.inr e))) (fun e => HC.out.nm (.inl e.symm)) HC.out.no Hok.out (by rw [h4]; have := HA.out.2; omega) hi (fun j hj => hbef j hj) hfrL ht (by omega) Hm1.out rfl)
        obtain ⟨ii, hif, hz, hss, hbyy⟩ := info_parts u8info
        have hcut1 := run_cut (P := Try.prog) (T := 25) Try.underlying25 hif (some ⟨gm, 0, none⟩) L L .i64 .i64 (t : Int) ((t : Int) + 12) t 12 rfl rfl (by omega)
        have hcut2 := run_cut_from (P := Try.prog) (T := 25) Try.underlying25 hif (some ⟨gm, 0, none⟩) L L .i64 ((t : Int) + 12) (t + 12) (L - (t + 12)) (by omega) (by omega) (Nat.le_refl _)
        rw [hss, cutA_at gm 0 L _ (by omega), Nat.zero_add] at hcut1 hcut2
        have hi0 : ¬ (i : Int) < 0 := by omega
        have HtL := hid htL
        have htb : t ≤ 1000000 := by omega
        have Hml := hid HC.out.len
        clear hi hbef ht hpl htL hk hqlen hii hif hz hss hbyy
        go_upto_region 13 with (first
          | (go_at_call 37; refine HI.out.mono ?_; rintro e w' ⟨rfl, hw⟩; have hw := hw.symm; subst hw)
          | (go_at_call 38; refine HAt.out.mono ?_; rintro e w' ⟨rfl, hw⟩; have hw := hw.symm; subst hw)
          | ((with_reducible show wpList _ _ _ (Oper.mk (some 49) _ _ _ _ _ :: _) _ _); refine wpList_copyBs rfl _ _ 25 rfl 5 u8ok gm (t + 12) (L - (t + 12)) (L - (t + 12)) rfl _ f rfl (HFr.out _ ((Fr.out.weaken (fun _ _ e => .inl (.inr (.inr e)))).trans (frame_mem G3.out) (fun _ _ e => .inr e))) _ 5 M3.out (by rw [List.length_map, patch_len (by rw [zeros_len, Hml.out]; have := HtL.out; omega), Hml.out]; have := HtL.out; omega) ?_; intro w4 hblk hg4 hsz4; have B4 := hid hblk; have G4 := hid hg4; clear hblk hg4 hsz4)
          | ((with_reducible show wpList _ _ _ (Oper.mk none _ _ _ _ _ :: _) _ _); refine wpList_clearM rfl _ rfl gm s.M t 12 (L - t) rfl (by decide) M1.out (by rw [Hml.out]; have := HtL.out; omega) ?_; intro w3 hm3 hg3; have M3 := hid hm3; have G3 := hid hg3; have c0 := cell_frame (frame_mem hg3) c0 (fun e => HC.out.nm (.inl e.symm)); clear hm3 hg3)
          | fail)
        have F4 := hid (((Fr.out.weaken (F' := fun k => I.fo k ∨ k = gm) (fun _ _ e => .inl e)).trans (frame_mem G3.out) (fun _ _ e => .inr e)).trans (frame_mem G4.out) (fun _ _ e => .inr e))
        have M4 := hid (show MemAt w4 gm (patch s.M t (vFrame f)) from by
          have h4 := B4.out
          have hft : f.take (L - (t + 12)) = f := List.take_of_length_le (by rw [Hl.out]; have := HtL.out; omega)
          rw [hft, show t + 12 = t + (zeros 12).length from rfl, patch_map, patch_patch (by rw [List.length_append, zeros_len, Hl.out, Hml.out]; have := HtL.out; omega)] at h4
          exact h4)
        have hl4 : (patch s.M t (vFrame f)).length = L := by rw [patch_len (by rw [vFrame_len, Hl.out, Hml.out]; have := HtL.out; omega), Hml.out]
        have Hl4 := hid hl4
        have Fq := hid ((frame_mem G3.out).trans (frame_mem G4.out) (fun _ _ e => e))
        have HOf := hid (HO.out w4 _ (Q1.out.frame Fq.out (fun k hk e => HC.out.nm (.inr (.inr (e ▸ hk))))) (C1.out.frame Fq.out (fun e => HC.out.nm (.inl e.symm))) M4.out hl4)
        clear hl4
        go_wp2_with (go_at_call 29; refine HOf.out.mono ?_; rintro e w5 ⟨⟨u, rfl⟩, FO', hq5, hm5, hf5, hn5⟩; have Q5 := hid hq5; have M5 := hid hm5; have F5 := hid hf5; have N5 := hid hn5; clear hq5 hm5 hf5 hn5)
        go_ret
        have hl5 : (vAddM (patch s.M t (vFrame f)) (b + vSize n) n q1.put i t k12 0).length = L := by
          rw [vAddM_len _ _ _ _ _ _ _ _ (by omega) hfree (by rw [Hl4.out]; have := HA.out.2; omega)]
          exact Hl4.out
        have hz4 : w.heap.size ≤ w4.heap.size := F4.out.size
        have ha := HC.out.out_ (F4.out.trans F5.out (fun _ _ e => e)) Q5.out (fun k hk => (N5.out k hk).imp_right (fun e => Nat.le_trans hz4 e)) M5.out hl5 (Nat.le_succ m)
        unfold SendPost
        rw [Hs.out]
        exact ⟨m + 1, _, rfl, ha.1, Nat.le_refl _, (F4.out.trans F5.out (fun _ _ e => e)).weaken (fun _ _ e => e.imp_left (fun e => .inr (.inr e))), ha.2⟩
      · have Hs := hid (vSend_no (b := b) (n := n) (s := s) (f := f) (by rw [Hl.out]; omega) HQ.out hfree)
        unfold vFirstI at HI
        rw [if_neg (by rw [hqlen]; exact hfree)] at HI
        have ha := HC.out.out_ (Fr.out.weaken (F' := fun k => I.fo k ∨ k = gm) (fun _ _ e => .inl e)) Q1.out (fun k hk => .inl hk) M1.out HC.out.len (Nat.le_refl m)
        have Hp := hid (show SendPost base gm L b n gC s m I f w (.returned (.int .i64 7)) wr from by
          unfold SendPost
          rw [Hs.out]
          exact ⟨m, _, rfl, ha.1, Nat.le_succ m, Fr.out.weaken (fun _ _ e => .inl (.inr (.inr e))), ha.2⟩)
        clear ha hfree hqlen
        go_wp2_with (go_at_call 37; refine HI.out.mono ?_; rintro e w' ⟨rfl, hw⟩; have hw := hw.symm; subst hw)
        go_ret
        exact Hp.out
/-- the program's Send -/
theorem vsend_at (base gm L b n gC : Nat) (s : VnSt) (m : Nat) (I : CardIds) (v : Value) (f : List UInt8) (w : World) (h : CardAt w base gm L b n gC s.M s.ci s.co m I) (hfit : vFits L (b : Int) (n : Int) = true) (hL : L ≤ 1000000) (hm1 : m < 1000000000)
    (hf : ∀ w', Frame (fun k => I.foot gC k ∨ k = gm) w w' → Bs w' v f) (hlen : f.length ≤ 100000) :
    Calls Try.prog 14 #[.pointer (some ⟨gC, 0, none⟩), v] w (SendPost base gm L b n gC s m I f w) := by
  obtain ⟨A, cap, rfl⟩ := slice_len (hf w (Frame.refl _ _)) rfl
  by_cases hbad : f.length < 14 ∨ f.length > 1514
  · exact vsend_bad base gm L b n gC s m I A cap f w h hlen hbad
  · exact vsend_good base gm L b n gC s m I A cap f w h hfit hL hm1 hf (by omega) (by omega)
end Go.Proofs.Ytgiegiobigdplaa
