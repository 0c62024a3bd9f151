/- The plain law of the two queues, two: what comes in. No program is named here. -/
import Derived.Test.YtgiegiobigdplaaVnV
namespace Go.Proofs.Ytgiegiobigdplaa
set_option linter.unusedVariables false

/-- r frames were received, those of W were delivered since -/
structure InFlow (M : List UInt8) (b n r : Nat) (ci : VQ) (pi : VD) (W : List (List UInt8)) : Prop where
  n1 : 1 ≤ n
  n2 : n ≤ 256
  dv : n ∣ 65536
  big : M.length ≤ 1000000
  len : b + 2 * vSize n + 2 * n * 1528 ≤ M.length
  cgot : ci.got = r % 65536
  cput : ci.put = (r + n) % 65536
  blen : ci.busy.length = n
  busy : ∀ j, j < n → ci.busy[j]? = some true
  pgot : pi.got = (r + W.length) % 65536
  pput : pi.put = (r + W.length) % 65536
  av : leAt M (b + (16 * n + 2)) 2 = (r + n) % 65536
  us : leAt M (b + (18 * n + 4 + 2)) 2 = (r + W.length) % 65536
  ring : ∀ j, j < n → leAt M (b + (16 * n + 4 + 2 * j)) 2 = j
  desc : ∀ j, j < n → leAt M (b + 16 * j) 8 = vPlace b n j ∧ leAt M (b + (16 * j + 8)) 4 = 1526 ∧ leAt M (b + (16 * j + 12)) 2 = 2
  used : ∀ k f, W[k]? = some f → leAt M (b + (18 * n + 4 + 4 + 8 * ((r + k) % n))) 4 = (r + k) % n ∧ leAt M (b + (18 * n + 4 + 4 + 8 * ((r + k) % n) + 4)) 4 = 12 + f.length ∧ (M.drop (vPlace b n ((r + k) % n) + 12)).take f.length = f ∧ 14 ≤ f.length ∧ f.length ≤ 1514
  wn : W.length ≤ n
theorem mod_slot {n x : Nat} (h : n ∣ 65536) : x % 65536 % n = x % n := Nat.mod_mod_of_dvd x h
theorem slot_ne {n r i k : Nat} (hn : 0 < n) (hi : i < k) (hk : k < i + n) : (r + i) % n ≠ (r + k) % n := by
  intro e
  have h1 := Nat.div_add_mod (r + i) n
  have h2 := Nat.div_add_mod (r + k) n
  rw [e] at h1
  have h3 : n * ((r + k) / n) = n * ((r + i) / n) + (k - i) := by omega
  have h4 : (r + i) / n < (r + k) / n := by
    rcases Nat.lt_or_ge ((r + i) / n) ((r + k) / n) with h | h
    · exact h
    · have := Nat.mul_le_mul_left n h
      omega
  have h5 : n * ((r + i) / n + 1) ≤ n * ((r + k) / n) := Nat.mul_le_mul_left n h4
  rw [Nat.mul_add, Nat.mul_one] at h5
  omega
/-- what is written elsewhere changes nothing -/
theorem InFlow.same {M M' : List UInt8} {b n r : Nat} {ci : VQ} {pi : VD} {W : List (List UInt8)} (h : InFlow M b n r ci pi W) (hl : M'.length = M.length) (h1 : Same M M' b (b + vSize n)) (h2 : Same M M' (b + 2 * vSize n) (b + 2 * vSize n + n * 1528)) : InFlow M' b n r ci pi W := by
  have hS : vSize n = 8 + 26 * n := rfl
  have hn := h.n1
  refine ⟨h.n1, h.n2, h.dv, by rw [hl]; exact h.big, by rw [hl]; exact h.len, h.cgot, h.cput, h.blen, h.busy, h.pgot, h.pput, ?_, ?_, fun j hj => ?_, fun j hj => ?_, fun k f hk => ?_, h.wn⟩
  · rw [h1.le (by omega) (by omega)]; exact h.av
  · rw [h1.le (by omega) (by omega)]; exact h.us
  · rw [h1.le (by omega) (by omega)]; exact h.ring j hj
  · rw [h1.le (by omega) (by omega), h1.le (by omega) (by omega), h1.le (by omega) (by omega)]; exact h.desc j hj
  · obtain ⟨u1, u2, u3, u4, u5⟩ := h.used k f hk
    have hm : (r + k) % n < n := Nat.mod_lt _ h.n1
    generalize (r + k) % n = s at *
    have hp : vPlace b n s = b + 2 * vSize n + s * 1528 := rfl
    have hs : s * 1528 + 1528 ≤ n * 1528 := by omega
    exact ⟨by rw [h1.le (by omega) (by omega)]; exact u1, by rw [h1.le (by omega) (by omega)]; exact u2, by rw [h2.piece (by omega) (by omega)]; exact u3, u4, u5⟩
/-- a frame is delivered -/
theorem in_deliver {M : List UInt8} {b n r : Nat} {ci : VQ} {pi : VD} {W : List (List UInt8)} {f : List UInt8} (h : InFlow M b n r ci pi W) (h14 : 14 ≤ f.length) (h1514 : f.length ≤ 1514) (hw : W.length < n) :
    ∃ M' pi', vDeliver b n f 65536 M pi = (0, M', pi') ∧ InFlow M' b n r ci pi' (W ++ [f]) ∧ M'.length = M.length ∧ Same M M' (b + vSize n) (b + 2 * vSize n) ∧ Same M M' (b + 2 * vSize n + n * 1528) M.length := by
  have hS : vSize n = 8 + 26 * n := rfl
  have hn := h.n1
  have hn2 := h.n2
  have hlen := h.len
  have hbig := h.big
  obtain ⟨s, hs⟩ : ∃ s, (r + W.length) % n = s := ⟨_, rfl⟩
  have hsn : s < n := by rw [← hs]; exact Nat.mod_lt _ hn
  have hgs : pi.got % n = s := by rw [h.pgot, mod_slot h.dv, hs]
  have hps : pi.put % n = s := by rw [h.pput, mod_slot h.dv, hs]
  have hp : vPlace b n s = b + 2 * vSize n + s * 1528 := rfl
  have hsm : s * 1528 + 1528 ≤ n * 1528 := by omega
  obtain ⟨P, hP⟩ : ∃ P, vPlace b n s = P := ⟨_, rfl⟩
  have hdesc := h.desc s hsn
  rw [hP] at hdesc
  obtain ⟨d1, d2, d3⟩ := hdesc
  have hch : vChain M b n (n + 1) s [] = some [⟨P, 1526, true⟩] := by
    rw [vChain]
    rw [if_neg (by simp; omega), if_neg (by omega)]
    simp only [d1, d2, d3]
    rfl
  have hPl : P + 1526 ≤ M.length := by omega
  have htk : vTake M b n pi = some (some (s, [⟨P, 1526, true⟩]), { pi with got := (pi.got + 1) % 65536 }) := by
    unfold vTake
    rw [if_neg (by rw [h.av, h.pgot]; omega)]
    simp only [hgs, h.ring s hsn, hch]
    rfl
  have hpc : vPiece M [⟨P, 1526, true⟩] (12 + f.length) true = true := by
    show (decide (12 + f.length ≤ 1526) && (true == true) && decide (P + 1526 ≤ M.length)) = true
    rw [decide_eq_true (by omega), decide_eq_true hPl]
    rfl
  have hfl : (vFrame f).length = 12 + f.length := by unfold vFrame; rw [List.length_append, List.length_replicate]
  have hfit : P + (vFrame f).length ≤ M.length := by rw [hfl]; omega
  obtain ⟨M1, hM1⟩ : ∃ M1, patch M P (vFrame f) = M1 := ⟨_, rfl⟩
  have hl1 : M1.length = M.length := by rw [← hM1]; exact patch_len hfit
  have hs1 : ∀ lo hi, hi ≤ P ∨ P + 1526 ≤ lo → Same M M1 lo hi := fun lo hi hh => by rw [← hM1]; exact same_patch hfit (by rw [hfl]; omega)
  have hf1 : (M1.drop (P + 12)).take f.length = f := by rw [← hM1]; exact piece_frame (by omega)
  obtain ⟨g1, g2, g3, g4, g5, g6⟩ := giveM_parts (M := M1) (b := b) (n := n) (put := pi.put) (head := s) (len := 12 + f.length) hn (by omega) (by omega) (by omega)
  have hv : vDeliver b n f 65536 M pi = (0, vGiveM M1 b n pi.put s (12 + f.length), VD.give { pi with got := (pi.got + 1) % 65536 }) := by
    show vDeliver b n f (65535 + 1) M pi = _
    rw [vDeliver, htk]
    simp only [hpc, if_true, List.headD_cons, hM1]
  obtain ⟨M', hM'⟩ : ∃ M', vGiveM M1 b n pi.put s (12 + f.length) = M' := ⟨_, rfl⟩
  rw [hM'] at hv g1 g2 g3 g4 g5 g6
  rw [hps] at g4 g5 g6
  have hr1 : ∀ q k, b ≤ q → q + k ≤ b + (18 * n + 4) → leAt M' q k = leAt M q k := fun q k a1 a2 => by
    rw [(g2 b (b + (18 * n + 4)) (.inl (Nat.le_refl _))).le a1 a2, (hs1 b (b + (18 * n + 4)) (.inl (by omega))).le a1 a2]
  have hr2 : ∀ lo hi, b + vSize n ≤ lo → hi ≤ P ∨ P + 1526 ≤ lo → Same M M' lo hi := fun lo hi a1 a2 => (hs1 lo hi a2).trans (g2 lo hi (.inr a1))
  have hr3 : ∀ q k, q + k ≤ P → b + (18 * n + 4) ≤ q → leAt M1 q k = leAt M q k := fun q k a1 a2 => (hs1 q (q + k) (.inl a1)).le (Nat.le_refl _) (Nat.le_refl _)
  have hwl : (W ++ [f]).length = W.length + 1 := by rw [List.length_append, List.length_singleton]
  refine ⟨M', _, hv, ⟨h.n1, h.n2, h.dv, by omega, by omega, h.cgot, h.cput, h.blen, h.busy, ?_, ?_, ?_, ?_, fun j hj => ?_, fun j hj => ?_, fun k g hk => ?_, by rw [hwl]; omega⟩, by omega, hr2 _ _ (Nat.le_refl _) (.inl (by omega)), hr2 _ _ (by omega) (.inr (by omega))⟩
  · show (pi.got + 1) % 65536 = _
    rw [h.pgot, hwl]; omega
  · show (pi.put + 1) % 65536 = _
    rw [h.pput, hwl]; omega
  · rw [hr1 _ _ (by omega) (by omega)]; exact h.av
  · rw [g3, h.pput, hwl]; omega
  · rw [hr1 _ _ (by omega) (by omega)]; exact h.ring j hj
  · rw [hr1 _ _ (by omega) (by omega), hr1 _ _ (by omega) (by omega), hr1 _ _ (by omega) (by omega)]; exact h.desc j hj
  · by_cases hkw : k < W.length
    · rw [List.getElem?_append_left hkw] at hk
      obtain ⟨u1, u2, u3, u4, u5⟩ := h.used k g hk
      have hne : (r + k) % n ≠ s := by rw [← hs]; exact slot_ne hn hkw (by omega)
      have hm : (r + k) % n < n := Nat.mod_lt _ hn
      generalize (r + k) % n = t at *
      obtain ⟨v1, v2⟩ := g6 t hm hne
      have hpt : vPlace b n t = b + 2 * vSize n + t * 1528 := rfl
      refine ⟨by rw [v1, hr3 _ _ (by omega) (by omega)]; exact u1, by rw [v2, hr3 _ _ (by omega) (by omega)]; exact u2, ?_, u4, u5⟩
      rw [(hr2 (vPlace b n t) (vPlace b n t + 1526) (by omega) (by omega)).piece (by omega) (by omega)]
      exact u3
    · have hkl : k = W.length := by
        have := (List.getElem?_eq_some_iff.1 hk).1
        omega
      subst hkl
      rw [List.getElem?_append_right (Nat.le_refl _), Nat.sub_self] at hk
      simp at hk
      subst hk
      rw [hs, hP]
      exact ⟨g4, g5, by rw [(g2 P (P + 1526) (.inr (by omega))).piece (by omega) (by omega)]; exact hf1, h14, h1514⟩
/-- no place is left -/
theorem in_full {M : List UInt8} {b n r : Nat} {ci : VQ} {pi : VD} {W : List (List UInt8)} {f : List UInt8} (h : InFlow M b n r ci pi W) (hw : W.length = n) : vDeliver b n f 65536 M pi = (7, M, pi) := by
  show vDeliver b n f (65535 + 1) M pi = _
  have ht : vTake M b n pi = none := by
    unfold vTake
    rw [if_pos (by rw [h.av, h.pgot, hw])]
  rw [vDeliver, ht]
/-- what was delivered is received -/
theorem in_receive_go {b n : Nat} {pi : VD} : ∀ (W : List (List UInt8)) (M : List UInt8) (r k : Nat) (ci : VQ) (out : List (List UInt8)), InFlow M b n r ci pi W → W.length < k →
    ∃ M' ci', vReceive b n k M ci out = (out ++ W, M', ci') ∧ InFlow M' b n (r + W.length) ci' pi [] ∧ M'.length = M.length ∧ Same M M' (b + vSize n) M.length := by
  intro W
  induction W with
  | nil =>
    intro M r k ci out h hk
    obtain ⟨k, rfl⟩ : ∃ x, k = x + 1 := ⟨k - 1, by omega⟩
    have hu : vUsed M b n ci = none := by
      unfold vUsed
      rw [if_pos (by rw [h.us, h.cgot]; rfl)]
    have hb : vBack M b n 65536 ci = (none, ci) := by
      show vBack M b n (65535 + 1) ci = _
      rw [vBack, hu]
    refine ⟨M, ci, ?_, h, rfl, Same.refl _ _ _⟩
    rw [vReceive, hb, List.append_nil]
  | cons f W ih =>
    intro M r k ci out h hk
    rw [List.length_cons] at hk
    obtain ⟨k, rfl⟩ : ∃ x, k = x + 1 := ⟨k - 1, by omega⟩
    have hS : vSize n = 8 + 26 * n := rfl
    have hn := h.n1
    have hn2 := h.n2
    have hlen := h.len
    have hbig := h.big
    have hwn := h.wn
    have hpg := h.pgot
    have hpp := h.pput
    have hus := h.us
    rw [List.length_cons] at hwn hpg hpp hus
    obtain ⟨s, hs⟩ : ∃ s, r % n = s := ⟨_, rfl⟩
    have hsn : s < n := by rw [← hs]; exact Nat.mod_lt _ hn
    have hgs : ci.got % n = s := by rw [h.cgot, mod_slot h.dv, hs]
    have hps : ci.put % n = s := by rw [h.cput, mod_slot h.dv, Nat.add_mod_right, hs]
    have hp : vPlace b n s = b + 2 * vSize n + s * 1528 := rfl
    have hsm : s * 1528 + 1528 ≤ n * 1528 := by omega
    obtain ⟨P, hP⟩ : ∃ P, vPlace b n s = P := ⟨_, rfl⟩
    obtain ⟨u1, u2, u3, u4, u5⟩ := h.used 0 f rfl
    have e0 : (r + 0) % n = s := hs
    rw [e0] at u1 u2 u3
    rw [hP] at u3
    have hbs : ci.busy[s]? = some true := h.busy s hsn
    have hu : vUsed M b n ci = some (some (s, 12 + f.length), { ci with got := (ci.got + 1) % 65536, busy := ci.busy.set s false }) := by
      unfold vUsed
      rw [if_neg (by rw [hus, h.cgot]; omega)]
      simp only [hgs, u1, u2, hbs, if_true]
    have hb : vBack M b n 65536 ci = (some (s, 12 + f.length), { ci with got := (ci.got + 1) % 65536, busy := ci.busy.set s false }) := by
      show vBack M b n (65535 + 1) ci = _
      rw [vBack, hu]
    have hrec : vReceive b n (k + 1) M ci out = vReceive b n k (vAddM M b n ci.put s P 1526 2) (VQ.add { ci with got := (ci.got + 1) % 65536, busy := ci.busy.set s false } s) (out ++ [f]) := by
      rw [vReceive, hb]
      simp only [hP]
      rw [if_pos (by omega), show 12 + f.length - 12 = f.length by omega, u3]
    obtain ⟨a1, a2, a3, a4, a5, a6⟩ := addM_parts (M := M) (b := b) (n := n) (put := ci.put) (i := s) (addr := P) (len := 1526) (fl := 2) hn hsn (by omega) hn2 (by omega) (by decide) (by decide)
    rw [hrec]
    obtain ⟨M2, hM2⟩ : ∃ M2, vAddM M b n ci.put s P 1526 2 = M2 := ⟨_, rfl⟩
    rw [hM2] at a1 a2 a3 a4 a5 a6 ⊢
    rw [hps] at a4
    have hin : InFlow M2 b n (r + 1) (VQ.add { ci with got := (ci.got + 1) % 65536, busy := ci.busy.set s false } s) pi W := by
      refine ⟨hn, hn2, h.dv, by omega, by omega, ?_, ?_, ?_, fun j hj => ?_, ?_, ?_, ?_, ?_, fun j hj => ?_, fun j hj => ?_, fun j g hj => ?_, by omega⟩
      · show (ci.got + 1) % 65536 = _
        rw [h.cgot]; omega
      · show (ci.put + 1) % 65536 = _
        rw [h.cput]; omega
      · show ((ci.busy.set s false).set s true).length = n
        rw [List.length_set, List.length_set, h.blen]
      · show ((ci.busy.set s false).set s true)[j]? = some true
        rw [List.getElem?_set]
        by_cases e : s = j
        · rw [if_pos e, if_pos (by rw [List.length_set, h.blen]; exact hsn)]
        · rw [if_neg e, List.getElem?_set, if_neg e]
          exact h.busy j hj
      · rw [hpg]; congr 1; omega
      · rw [hpp]; congr 1; omega
      · rw [a3, h.cput]; omega
      · rw [(a2 (b + (18 * n + 4)) (b + vSize n) (.inr (Nat.le_refl _))).le (by omega) (by omega), hus]; congr 1; omega
      · rw [a4 j hj]
        by_cases e : j = s
        · rw [if_pos e, e]
        · rw [if_neg e]
          exact h.ring j hj
      · by_cases e : j = s
        · subst e
          rw [hP]
          exact a5
        · obtain ⟨c1, c2, c3⟩ := a6 j hj e
          rw [c1, c2, c3]
          exact h.desc j hj
      · obtain ⟨v1, v2, v3, v4, v5⟩ := h.used (j + 1) g hj
        have hm : (r + (j + 1)) % n < n := Nat.mod_lt _ hn
        rw [show r + 1 + j = r + (j + 1) by omega]
        generalize (r + (j + 1)) % n = t at *
        have hpt : vPlace b n t = b + 2 * vSize n + t * 1528 := rfl
        have hsame := a2 (b + (18 * n + 4)) M.length (.inr (Nat.le_refl _))
        refine ⟨by rw [hsame.le (by omega) (by omega)]; exact v1, by rw [hsame.le (by omega) (by omega)]; exact v2, by rw [hsame.piece (by omega) (by omega)]; exact v3, v4, v5⟩
    obtain ⟨M', ci', e1, e2, e3, e4⟩ := ih M2 (r + 1) k _ (out ++ [f]) hin (by omega)
    refine ⟨M', ci', ?_, ?_, by omega, (a2 _ _ (.inr (by omega))).trans (by rw [a1] at e4; exact e4)⟩
    · rw [e1, List.append_assoc]; rfl
    · rw [List.length_cons, show r + (W.length + 1) = r + 1 + W.length by omega]
      exact e2
theorem in_receive {M : List UInt8} {b n r : Nat} {ci : VQ} {pi : VD} {W : List (List UInt8)} (h : InFlow M b n r ci pi W) :
    ∃ M' ci', vReceive b n 65536 M ci [] = (W, M', ci') ∧ InFlow M' b n (r + W.length) ci' pi [] ∧ M'.length = M.length ∧ Same M M' (b + vSize n) M.length := by
  have := h.wn
  have := h.n2
  exact in_receive_go W M r 65536 ci [] h (by omega)
end Go.Proofs.Ytgiegiobigdplaa
