/- The plain law of the two queues, three: what goes out. No program is named here. -/
import Derived.Test.YtgiegiobigdplaaVnW
import Derived.Test.YtgiegiobigdplaaVnU
namespace Go.Proofs.Ytgiegiobigdplaa
set_option linter.unusedVariables false
set_option maxRecDepth 10000

/-- u heads were taken back, G more were given back, those of W were sent since -/
structure OutFlow (M : List UInt8) (b n u G : Nat) (co : VQ) (po : VD) (W : List (List UInt8)) : Prop where
  n1 : 1 ≤ n
  n2 : n ≤ 256
  dv : n ∣ 65536
  big : M.length ≤ 1000000
  len : b + 2 * vSize n + 2 * n * 1528 ≤ M.length
  cgot : co.got = u % 65536
  cput : co.put = (u + G + W.length) % 65536
  blen : co.busy.length = n
  busy : ∀ j, j < n → co.busy[j]? = some (decide (j < G + W.length))
  pgot : po.got = (u + G) % 65536
  pput : po.put = (u + G) % 65536
  av : leAt M (b + vSize n + (16 * n + 2)) 2 = (u + G + W.length) % 65536
  us : leAt M (b + vSize n + (18 * n + 4 + 2)) 2 = (u + G) % 65536
  back : ∀ k, k < G → leAt M (b + vSize n + (18 * n + 4 + 4 + 8 * ((u + k) % n))) 4 = k
  pend : ∀ k f, W[k]? = some f → leAt M (b + vSize n + (16 * n + 4 + 2 * ((u + G + k) % n))) 2 = k ∧ (leAt M (b + vSize n + 16 * k) 8 = vPlace b n (n + k) ∧ leAt M (b + vSize n + (16 * k + 8)) 4 = 12 + f.length ∧ leAt M (b + vSize n + (16 * k + 12)) 2 = 0) ∧
    (M.drop (vPlace b n (n + k) + 12)).take f.length = f ∧ 14 ≤ f.length ∧ f.length ≤ 1514
  one : G = 0 ∨ W = []
  gn : G ≤ n
  wn : W.length ≤ n
theorem OutFlow.same {M M' : List UInt8} {b n u G : Nat} {co : VQ} {po : VD} {W : List (List UInt8)} (h : OutFlow M b n u G co po W) (hl : M'.length = M.length) (h1 : Same M M' (b + vSize n) (b + 2 * vSize n)) (h2 : Same M M' (b + 2 * vSize n + n * 1528) (b + 2 * vSize n + 2 * n * 1528)) : OutFlow M' b n u G co po W := by
  have hS : vSize n = 8 + 26 * n := rfl
  have hn := h.n1
  refine ⟨h.n1, h.n2, h.dv, by rw [hl]; exact h.big, by rw [hl]; exact h.len, h.cgot, h.cput, h.blen, h.busy, h.pgot, h.pput, ?_, ?_, fun k hk => ?_, fun k f hk => ?_, h.one, h.gn, h.wn⟩
  · rw [h1.le (by omega) (by omega)]; exact h.av
  · rw [h1.le (by omega) (by omega)]; exact h.us
  · have hm : (u + k) % n < n := Nat.mod_lt _ h.n1
    rw [h1.le (by omega) (by omega)]; exact h.back k hk
  · obtain ⟨u1, ⟨u2, u3, u4⟩, u5, u6, u7⟩ := h.pend k f hk
    have hkn : k < n := by
      have := (List.getElem?_eq_some_iff.1 hk).1
      have := h.wn
      omega
    have hm : (u + G + k) % n < n := Nat.mod_lt _ h.n1
    have hp : vPlace b n (n + k) = b + 2 * vSize n + (n + k) * 1528 := rfl
    have hs : (n + k) * 1528 + 1528 ≤ 2 * n * 1528 := by omega
    refine ⟨by rw [h1.le (by omega) (by omega)]; exact u1, ⟨by rw [h1.le (by omega) (by omega)]; exact u2, by rw [h1.le (by omega) (by omega)]; exact u3, by rw [h1.le (by omega) (by omega)]; exact u4⟩, by rw [h2.piece (by omega) (by omega)]; exact u5, u6, u7⟩
theorem out_drain_go {M : List UInt8} {b2 n u G P : Nat} (hn : 1 ≤ n) (hn2 : n ≤ 256) (hdv : n ∣ 65536) (hG : G ≤ n) (hus : leAt M (b2 + (18 * n + 4 + 2)) 2 = (u + G) % 65536) (hback : ∀ k, k < G → leAt M (b2 + (18 * n + 4 + 4 + 8 * ((u + k) % n))) 4 = k) :
    ∀ (d i : Nat) (q : VQ), i + d = G → q.got = (u + i) % 65536 → q.put = P → q.busy.length = n → (∀ j, j < n → q.busy[j]? = some (decide (i ≤ j ∧ j < G))) → ∀ k, d < k →
      ∃ q', vDrain M b2 n k q = q' ∧ q'.got = (u + G) % 65536 ∧ q'.put = P ∧ q'.busy.length = n ∧ ∀ j, j < n → q'.busy[j]? = some false := by
  intro d
  induction d with
  | zero =>
    intro i q hi hg hp hl hb k hk
    have hiG : i = G := by omega
    subst hiG
    have hu : vUsed M b2 n q = none := by unfold vUsed; rw [if_pos (by rw [hus, hg])]
    refine ⟨q, vDrain_none hu k, hg, hp, hl, fun j hj => ?_⟩
    rw [hb j hj, decide_eq_false (by omega)]
  | succ d ih =>
    intro i q hi hg hp hl hb k hk
    obtain ⟨k, rfl⟩ : ∃ x, k = x + 1 := ⟨k - 1, by omega⟩
    have hgs : q.got % n = (u + i) % n := by rw [hg, mod_slot hdv]
    have hbi : q.busy[i]? = some true := by rw [hb i (by omega), decide_eq_true (by omega)]
    have hu : vUsed M b2 n q = some (some (i, leAt M (b2 + (18 * n + 4 + 4 + 8 * ((u + i) % n) + 4)) 4), { q with got := (q.got + 1) % 65536, busy := q.busy.set i false }) := by
      unfold vUsed
      rw [if_neg (by rw [hus, hg]; omega)]
      simp only [hgs, hback i (by omega), hbi, if_true]
    rw [vDrain_step hu]
    refine ih (i + 1) ({ q with got := (q.got + 1) % 65536, busy := q.busy.set i false } : VQ) (by omega) ?_ hp ?_ (fun j hj => ?_) k (by omega)
    · show (q.got + 1) % 65536 = _
      rw [hg]; omega
    · show (q.busy.set i false).length = n
      rw [List.length_set, hl]
    · show (q.busy.set i false)[j]? = _
      rw [List.getElem?_set]
      by_cases e : i = j
      · subst e
        rw [if_pos rfl, if_pos (by rw [hl]; exact hj), decide_eq_false (by omega)]
      · rw [if_neg e, hb j hj]
        congr 1
        exact decide_eq_decide.2 (by omega)
theorem out_drain {M : List UInt8} {b n u G : Nat} {co : VQ} {po : VD} {W : List (List UInt8)} (h : OutFlow M b n u G co po W) :
    ∃ co', vDrain M (b + vSize n) n 65536 co = co' ∧ OutFlow M b n (u + G) 0 co' po W := by
  have hgn := h.gn
  have hn2 := h.n2
  rcases h.one with hG | hW
  · subst hG
    have hu : vUsed M (b + vSize n) n co = none := by unfold vUsed; rw [if_pos (by rw [h.us, h.cgot]; rfl)]
    exact ⟨co, vDrain_none hu _, h⟩
  · subst hW
    have hcp := h.cput
    have hav := h.av
    simp only [List.length_nil, Nat.add_zero] at hcp hav
    obtain ⟨q', e1, e2, e3, e4, e5⟩ := out_drain_go (P := (u + G) % 65536) h.n1 hn2 h.dv hgn h.us h.back G 0 co (by omega) (by rw [h.cgot]; rfl) hcp h.blen (fun j hj => by rw [h.busy j hj]; congr 1; exact decide_eq_decide.2 (by simp)) 65536 (by omega)
    refine ⟨q', e1, ⟨h.n1, h.n2, h.dv, h.big, h.len, e2, ?_, e4, fun j hj => ?_, ?_, ?_, ?_, ?_, fun k hk => by omega, fun k f hk => by simp at hk, .inl rfl, Nat.zero_le _, h.wn⟩⟩
    · simpa using e3
    · rw [e5 j hj, decide_eq_false (by simp)]
    · simpa using h.pgot
    · simpa using h.pput
    · simpa using hav
    · simpa using h.us
theorem vFirst_at {busy : List Bool} {k : Nat} (h1 : ∀ j, j < k → busy[j]? = some true) (h2 : busy[k]? = some false) : vFirst busy = k := by
  have hk : k < busy.length := (List.getElem?_eq_some_iff.1 h2).1
  have : ∀ j, j ≤ k → j ≤ vFirst busy := by
    intro j
    induction j with
    | zero => intro _; exact Nat.zero_le _
    | succ j ih => intro hj; exact vFirst_true (h1 j (by omega)) (ih (by omega))
  exact vFirst_false h2 (this k (Nat.le_refl _))
theorem vFirst_none {busy : List Bool} (h : ∀ j, j < busy.length → busy[j]? = some true) : ¬ vFirst busy < busy.length := by
  intro hlt
  have := vFirst_is hlt
  rw [h _ hlt] at this
  injection this with this
  cases this
/-- a frame is sent -/
theorem out_send {b n u G : Nat} {s : VnSt} {W : List (List UInt8)} {f : List UInt8} (h : OutFlow s.M b n u G s.co s.po W) (h14 : 14 ≤ f.length) (h1514 : f.length ≤ 1514) (hw : W.length < n) :
    ∃ s', vSend b n s f = (0, s') ∧ OutFlow s'.M b n (u + G) 0 s'.co s'.po (W ++ [f]) ∧ s'.ci = s.ci ∧ s'.pi = s.pi ∧ s'.M.length = s.M.length ∧ Same s.M s'.M b (b + vSize n) ∧ Same s.M s'.M (b + 2 * vSize n) (b + 2 * vSize n + n * 1528) := by
  obtain ⟨co, hco, h0⟩ := out_drain h
  have hS : vSize n = 8 + 26 * n := rfl
  have hn := h.n1
  have hn2 := h.n2
  have hlen := h.len
  have hbig := h.big
  obtain ⟨t, ht⟩ : ∃ t, u + G = t := ⟨_, rfl⟩
  rw [ht] at h0 ⊢
  obtain ⟨i, hi⟩ : ∃ i, W.length = i := ⟨_, rfl⟩
  have hcp := h0.cput
  have hav := h0.av
  have hbz := h0.busy
  rw [hi] at hcp hav hbz hw
  simp only [Nat.add_zero, Nat.zero_add] at hcp hav hbz
  have hfi : vFirst co.busy = i := vFirst_at (fun j hj => by rw [hbz j (by omega), decide_eq_true hj]) (by rw [hbz i hw, decide_eq_false (Nat.lt_irrefl _)])
  obtain ⟨P, hP⟩ : ∃ P, vPlace b n (n + i) = P := ⟨_, rfl⟩
  have hp : vPlace b n (n + i) = b + 2 * vSize n + (n + i) * 1528 := rfl
  have hsm : (n + i) * 1528 + 1528 ≤ 2 * n * 1528 := by omega
  have hPl : P + 1528 ≤ s.M.length := by omega
  have hfl : (vFrame f).length = 12 + f.length := vFrame_len f
  have hfit : P + (vFrame f).length ≤ s.M.length := by rw [hfl]; omega
  have hv := vSend_yes (b := b) (s := s) (f := f) (by omega) hco hfi hw
  rw [hP] at hv
  obtain ⟨M1, hM1⟩ : ∃ M1, patch s.M P (vFrame f) = M1 := ⟨_, rfl⟩
  have hl1 : M1.length = s.M.length := by rw [← hM1]; exact patch_len hfit
  have hs1 : ∀ lo hi, hi ≤ P ∨ P + 1526 ≤ lo → Same s.M M1 lo hi := fun lo hi hh => by rw [← hM1]; exact same_patch hfit (by rw [hfl]; omega)
  have hf1 : (M1.drop (P + 12)).take f.length = f := by rw [← hM1]; exact piece_frame (by omega)
  obtain ⟨a1, a2, a3, a4, a5, a6⟩ := addM_parts (M := M1) (b := b + vSize n) (n := n) (put := co.put) (i := i) (addr := P) (len := 12 + f.length) (fl := 0) hn hw (by omega) hn2 (by omega) (by omega) (by decide)
  rw [hM1] at hv
  obtain ⟨M', hM'⟩ : ∃ M', vAddM M1 (b + vSize n) n co.put i P (12 + f.length) 0 = M' := ⟨_, rfl⟩
  rw [hM'] at hv a1 a2 a3 a4 a5 a6
  have hps : co.put % n = (t + i) % n := by rw [hcp, mod_slot h.dv]
  rw [hps] at a4
  have hwl : (W ++ [f]).length = i + 1 := by rw [List.length_append, List.length_singleton, hi]
  have hr1 : ∀ q k, b + vSize n ≤ q → q + k ≤ P → leAt M1 q k = leAt s.M q k := fun q k c1 c2 => (hs1 q (q + k) (.inl c2)).le (Nat.le_refl _) (Nat.le_refl _)
  have hr2 : ∀ lo hi, b + 2 * vSize n ≤ lo → hi ≤ P ∨ P + 1526 ≤ lo → Same s.M M' lo hi := fun lo hi c1 c2 => (hs1 lo hi c2).trans (a2 lo hi (.inr (by omega)))
  refine ⟨_, hv, ⟨h.n1, h.n2, h.dv, by show M'.length ≤ _; omega, by show _ ≤ M'.length; omega, h0.cgot, ?_, ?_, fun j hj => ?_, h0.pgot, h0.pput, ?_, ?_, fun k hk => by omega, fun k g hk => ?_, .inl rfl, Nat.zero_le _, by rw [hwl]; omega⟩, rfl, rfl, (by rw [← hl1]; exact a1), ?_, ?_⟩
  · show (co.put + 1) % 65536 = _
    rw [hcp, hwl]; omega
  · show (co.busy.set i true).length = n
    rw [List.length_set, h0.blen]
  · show (co.busy.set i true)[j]? = _
    rw [List.getElem?_set, hwl]
    by_cases e : i = j
    · subst e
      rw [if_pos rfl, if_pos (by rw [h0.blen]; exact hj), decide_eq_true (by omega)]
    · rw [if_neg e, hbz j hj]
      congr 1
      exact decide_eq_decide.2 (by omega)
  · show leAt M' _ _ = _
    rw [a3, hcp, hwl]; omega
  · show leAt M' _ _ = _
    rw [(a2 (b + vSize n + (18 * n + 4)) (b + vSize n + vSize n) (.inr (Nat.le_refl _))).le (by omega) (by omega), hr1 _ _ (by omega) (by omega)]
    exact h0.us
  · show leAt M' _ _ = k ∧ (leAt M' _ _ = _ ∧ leAt M' _ _ = _ ∧ leAt M' _ _ = _) ∧ (M'.drop _).take _ = g ∧ _
    by_cases hkw : k < i
    · rw [List.getElem?_append_left (by omega)] at hk
      obtain ⟨u1, ⟨u2, u3, u4⟩, u5, u6, u7⟩ := h0.pend k g hk
      simp only [Nat.add_zero] at u1 ⊢
      have hne : (t + k) % n ≠ (t + i) % n := slot_ne hn hkw (by omega)
      have hm : (t + k) % n < n := Nat.mod_lt _ hn
      obtain ⟨v1, v2, v3⟩ := a6 k (by omega) (by omega)
      have hpk : vPlace b n (n + k) = b + 2 * vSize n + (n + k) * 1528 := rfl
      refine ⟨by rw [a4 _ hm, if_neg hne, hr1 _ _ (by omega) (by omega)]; exact u1, ⟨by rw [v1, hr1 _ _ (by omega) (by omega)]; exact u2, by rw [v2, hr1 _ _ (by omega) (by omega)]; exact u3, by rw [v3, hr1 _ _ (by omega) (by omega)]; exact u4⟩, ?_, u6, u7⟩
      rw [(hr2 (vPlace b n (n + k)) (vPlace b n (n + k) + 1526) (by omega) (by omega)).piece (by omega) (by omega)]
      exact u5
    · have hkl : k = W.length := by
        have := (List.getElem?_eq_some_iff.1 hk).1
        omega
      subst hkl
      rw [List.getElem?_append_right (Nat.le_refl _), Nat.sub_self] at hk
      simp at hk
      subst hk
      rw [hi] at *
      have hm : (t + i) % n < n := Nat.mod_lt _ hn
      simp only [Nat.add_zero]
      exact ⟨by rw [a4 _ hm, if_pos rfl], by rw [hP]; exact a5, by rw [hP, (a2 P (P + 1526) (.inr (by omega))).piece (by omega) (by omega)]; exact hf1, h14, h1514⟩
  · have c1 := hs1 b (b + vSize n) (.inl (by omega))
    have c2 := a2 b (b + vSize n) (.inl (by omega))
    exact c1.trans c2
  · have c1 := hr2 (b + 2 * vSize n) (b + 2 * vSize n + n * 1528) (by omega) (.inl (by omega))
    exact c1
/-- no place is left -/
theorem out_full {b n u G : Nat} {s : VnSt} {W : List (List UInt8)} {f : List UInt8} (h : OutFlow s.M b n u G s.co s.po W) (h14 : 14 ≤ f.length) (h1514 : f.length ≤ 1514) (hw : W.length = n) :
    ∃ co, vSend b n s f = (7, { s with co := co }) ∧ OutFlow s.M b n (u + G) 0 co s.po W := by
  obtain ⟨co, hco, h0⟩ := out_drain h
  refine ⟨co, vSend_no (by omega) hco ?_, h0⟩
  have := vFirst_none (busy := co.busy) (fun j hj => by rw [h0.blen] at hj; rw [h0.busy j hj, decide_eq_true (by omega)])
  rw [h0.blen] at this
  exact this
/-- what was sent is told -/
theorem out_sent_go {M : List UInt8} {b n u : Nat} {co : VQ} {po0 : VD} {W : List (List UInt8)} (h : OutFlow M b n u 0 co po0 W) :
    ∀ (d i : Nat) (Mi : List UInt8) (po : VD) (out : List (List UInt8)), i + d = W.length → Mi.length = M.length → (∀ lo hi, hi ≤ b + vSize n + (18 * n + 4) ∨ b + 2 * vSize n ≤ lo → Same M Mi lo hi) → leAt Mi (b + vSize n + (18 * n + 4 + 2)) 2 = (u + i) % 65536 →
      (∀ k, k < i → leAt Mi (b + vSize n + (18 * n + 4 + 4 + 8 * ((u + k) % n))) 4 = k) → po.got = (u + i) % 65536 → po.put = (u + i) % 65536 → ∀ k, d < k →
      ∃ M' po', vSent (b + vSize n) n k Mi po out = (out ++ W.drop i, M', po') ∧ M'.length = M.length ∧ (∀ lo hi, hi ≤ b + vSize n + (18 * n + 4) ∨ b + 2 * vSize n ≤ lo → Same M M' lo hi) ∧ leAt M' (b + vSize n + (18 * n + 4 + 2)) 2 = (u + W.length) % 65536 ∧
        (∀ k, k < W.length → leAt M' (b + vSize n + (18 * n + 4 + 4 + 8 * ((u + k) % n))) 4 = k) ∧ po'.got = (u + W.length) % 65536 ∧ po'.put = (u + W.length) % 65536 := by
  have hS : vSize n = 8 + 26 * n := rfl
  have hn := h.n1
  have hn2 := h.n2
  have hlen := h.len
  have hbig := h.big
  have hwn := h.wn
  have hav := h.av
  simp only [Nat.add_zero] at hav
  intro d
  induction d with
  | zero =>
    intro i Mi po out hi hl hsm hus hback hg hp k hk
    have e : i = W.length := by omega
    subst e
    have hav2 : leAt Mi (b + vSize n + (16 * n + 2)) 2 = (u + W.length) % 65536 := by rw [(hsm (b + vSize n) (b + vSize n + (18 * n + 4)) (.inl (Nat.le_refl _))).le (by omega) (by omega)]; exact hav
    have ht : vTake Mi (b + vSize n) n po = none := by unfold vTake; rw [if_pos (by rw [hav2, hg])]
    refine ⟨Mi, po, ?_, hl, hsm, hus, hback, hg, hp⟩
    rw [List.drop_length, List.append_nil]
    cases k with
    | zero => rfl
    | succ k => rw [vSent, ht]
  | succ d ih =>
    intro i Mi po out hi hl hsm hus hback hg hp k hk
    obtain ⟨k, rfl⟩ : ∃ x, k = x + 1 := ⟨k - 1, by omega⟩
    have hiw : i < W.length := by omega
    obtain ⟨f, hf⟩ : ∃ f, W[i]? = some f := ⟨_, List.getElem?_eq_getElem hiw⟩
    obtain ⟨u1, ⟨u2, u3, u4⟩, u5, u6, u7⟩ := h.pend i f hf
    simp only [Nat.add_zero] at u1
    have hm : (u + i) % n < n := Nat.mod_lt _ hn
    have hin : i < n := by omega
    have hgs : po.got % n = (u + i) % n := by rw [hg, mod_slot h.dv]
    have hps : po.put % n = (u + i) % n := by rw [hp, mod_slot h.dv]
    obtain ⟨P, hP⟩ : ∃ P, vPlace b n (n + i) = P := ⟨_, rfl⟩
    have hpp : vPlace b n (n + i) = b + 2 * vSize n + (n + i) * 1528 := rfl
    have hsm2 : (n + i) * 1528 + 1528 ≤ 2 * n * 1528 := by omega
    have hPl : P + 1528 ≤ M.length := by omega
    rw [hP] at u2 u5
    have hle : ∀ q j, b + vSize n ≤ q → q + j ≤ b + vSize n + (18 * n + 4) → leAt Mi q j = leAt M q j := fun q j c1 c2 => (hsm (b + vSize n) (b + vSize n + (18 * n + 4)) (.inl (Nat.le_refl _))).le c1 c2
    have hch : vChain Mi (b + vSize n) n (n + 1) i [] = some [⟨P, 12 + f.length, false⟩] := by
      rw [vChain]
      rw [hle _ _ (by omega) (by omega), hle _ _ (by omega) (by omega), hle _ _ (by omega) (by omega), u2, u3, u4]
      rw [if_neg (by simp; omega), if_neg (by omega)]
      rfl
    have htk : vTake Mi (b + vSize n) n po = some (some (i, [⟨P, 12 + f.length, false⟩]), { po with got := (po.got + 1) % 65536 }) := by
      unfold vTake
      rw [hle _ _ (by omega) (by omega), if_neg (by rw [hav, hg]; omega)]
      simp only [hgs]
      rw [hle _ _ (by omega) (by omega), u1, hch]
      rfl
    have hrow : (Mi.drop (P + 12)).take (12 + f.length - 12) = f := by
      rw [show 12 + f.length - 12 = f.length by omega, (hsm (b + 2 * vSize n) M.length (.inr (Nat.le_refl _))).piece (by omega) (by omega)]
      exact u5
    obtain ⟨M2, hM2⟩ : ∃ M2, vGiveM Mi (b + vSize n) n po.put i 0 = M2 := ⟨_, rfl⟩
    have hrec : vSent (b + vSize n) n (k + 1) Mi po out = vSent (b + vSize n) n k M2 (VD.give { po with got := (po.got + 1) % 65536 }) (out ++ [f]) := by
      have hok : vSentOk Mi [(⟨P, 12 + f.length, false⟩ : VBuf)] = true := by
        show ((decide (26 ≤ 12 + f.length) && (false == false) && decide (P + (12 + f.length) ≤ Mi.length)) && decide (12 + f.length ≤ 1526)) = true
        rw [decide_eq_true (show 26 ≤ 12 + f.length by omega), decide_eq_true (show P + (12 + f.length) ≤ Mi.length by omega), decide_eq_true (show 12 + f.length ≤ 1526 by omega)]
        rfl
      rw [vSent_yes htk hok, hM2, hrow]
    obtain ⟨g1, g2, g3, g4, g5, g6⟩ := giveM_parts (M := Mi) (b := b + vSize n) (n := n) (put := po.put) (head := i) (len := 0) hn (by omega) (by omega) (by decide)
    rw [hM2] at g1 g2 g3 g4 g6
    rw [hps] at g4 g6
    rw [hrec]
    obtain ⟨M', po', e1, e2, e3, e4, e5, e6, e7⟩ := ih (i + 1) M2 (VD.give { po with got := (po.got + 1) % 65536 }) (out ++ [f]) (by omega) (by omega) (fun lo hi hh => (hsm lo hi hh).trans (g2 lo hi (by omega))) (by rw [g3, hp]; omega)
      (fun j hj => by
        by_cases e : j = i
        · subst e; exact g4
        · rw [(g6 ((u + j) % n) (Nat.mod_lt _ hn) (slot_ne hn (by omega) (by omega))).1]
          exact hback j (by omega))
      (by show (po.got + 1) % 65536 = _; rw [hg]; omega) (by show (po.put + 1) % 65536 = _; rw [hp]; omega) k (by omega)
    refine ⟨M', po', ?_, e2, e3, e4, e5, e6, e7⟩
    rw [e1, List.append_assoc]
    congr 2
    have hd : W.drop i = f :: W.drop (i + 1) := by
      rw [List.drop_eq_getElem_cons hiw]
      congr 1
      rw [List.getElem?_eq_getElem hiw] at hf
      injection hf
    rw [hd]
    rfl
theorem out_sent {M : List UInt8} {b n u G : Nat} {co : VQ} {po : VD} {W : List (List UInt8)} (h : OutFlow M b n u G co po W) :
    ∃ M' po' u' G', vSent (b + vSize n) n 65536 M po [] = (W, M', po') ∧ OutFlow M' b n u' G' co po' [] ∧ M'.length = M.length ∧ Same M M' b (b + vSize n) ∧ Same M M' (b + 2 * vSize n) M.length := by
  have hS : vSize n = 8 + 26 * n := rfl
  have hn := h.n1
  have hn2 := h.n2
  have hlen := h.len
  have hbig := h.big
  have hwn := h.wn
  by_cases hG : G = 0
  · subst hG
    have hpg := h.pgot
    have hpp := h.pput
    have hcp := h.cput
    have hus := h.us
    have hav := h.av
    have hbz := h.busy
    simp only [Nat.add_zero, Nat.zero_add] at hpg hpp hcp hus hav hbz
    obtain ⟨M', po', e1, e2, e3, e4, e5, e6, e7⟩ := out_sent_go h W.length 0 M po [] (by omega) rfl (fun _ _ _ => Same.refl _ _ _) hus (fun k hk => by omega) hpg hpp 65536 (by omega)
    have hle : ∀ q j, b + vSize n ≤ q → q + j ≤ b + vSize n + (18 * n + 4) → leAt M' q j = leAt M q j := fun q j c1 c2 => (e3 (b + vSize n) (b + vSize n + (18 * n + 4)) (.inl (Nat.le_refl _))).le c1 c2
    refine ⟨M', po', u, W.length, e1, ⟨hn, hn2, h.dv, by omega, by omega, h.cgot, hcp, h.blen, hbz, e6, e7, ?_, e4, e5, fun k f hk => by simp at hk, .inr rfl, hwn, Nat.zero_le _⟩, e2, e3 _ _ (.inl (by omega)), e3 _ _ (.inr (by omega))⟩
    rw [hle _ _ (by omega) (by omega)]
    exact hav
  · have hW : W = [] := h.one.resolve_left hG
    subst hW
    have ht : vTake M (b + vSize n) n po = none := by
      unfold vTake
      rw [if_pos (by rw [h.av, h.pgot]; rfl)]
    exact ⟨M, po, u, G, vSent_none ht, h, rfl, Same.refl _ _ _, Same.refl _ _ _⟩
end Go.Proofs.Ytgiegiobigdplaa
