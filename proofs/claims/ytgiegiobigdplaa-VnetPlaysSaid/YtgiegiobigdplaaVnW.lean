/- The plain law of the two queues, two: what comes in. No program is named here. -/
import Derived.Test.YtgiegiobigdplaaVnS
namespace Go.Proofs.Ytgiegiobigdplaa
section

/-- what lies there is the same -/
def Same (M M' : List UInt8) (lo hi : Nat) : Prop := ∀ i, lo ≤ i → i < hi → M'[i]? = M[i]?
theorem Same.refl (M : List UInt8) (lo hi : Nat) : Same M M lo hi := fun _ _ _ => rfl
theorem Same.trans {M M' M'' : List UInt8} {lo hi : Nat} (h : Same M M' lo hi) (k : Same M' M'' lo hi) : Same M M'' lo hi := fun i h1 h2 => (k i h1 h2).trans (h i h1 h2)
theorem Same.sub {M M' : List UInt8} {lo hi lo' hi' : Nat} (h : Same M M' lo hi) (h1 : lo ≤ lo') (h2 : hi' ≤ hi) : Same M M' lo' hi' := fun i a b => h i (Nat.le_trans h1 a) (Nat.lt_of_lt_of_le b h2)
theorem Same.piece {M M' : List UInt8} {lo hi : Nat} (h : Same M M' lo hi) {q k : Nat} (h1 : lo ≤ q) (h2 : q + k ≤ hi) : (M'.drop q).take k = (M.drop q).take k := by
  apply List.ext_getElem?
  intro i
  rw [List.getElem?_take, List.getElem?_take]
  split
  · rw [List.getElem?_drop, List.getElem?_drop]
    exact h _ (by omega) (by omega)
  · rfl
theorem Same.le {M M' : List UInt8} {lo hi : Nat} (h : Same M M' lo hi) {q k : Nat} (h1 : lo ≤ q) (h2 : q + k ≤ hi) : leAt M' q k = leAt M q k := by
  unfold leAt
  rw [h.piece h1 h2]
theorem same_patch {M b : List UInt8} {p lo hi : Nat} (h : p + b.length ≤ M.length) (ha : hi ≤ p ∨ p + b.length ≤ lo) : Same M (patch M p b) lo hi := by
  intro i h1 h2
  unfold patch
  rcases ha with ha | ha
  · rw [List.getElem?_append_left (by simp; omega), List.getElem?_take, if_pos (by omega)]
  · rw [List.getElem?_append_right (by simp; omega), List.getElem?_append_right (by simp; omega), List.getElem?_drop]
    congr 1
    simp
    omega
theorem same_put {M : List UInt8} {p k v lo hi : Nat} (h : p + k ≤ M.length) (ha : hi ≤ p ∨ p + k ≤ lo) : Same M (putAt M p k v) lo hi := same_patch (by rw [leBytes_len]; exact h) (by rw [leBytes_len]; exact ha)
theorem piece_patch {M b : List UInt8} {p q k : Nat} (h : p + b.length ≤ M.length) (h1 : p ≤ q) (h2 : q + k ≤ p + b.length) : ((patch M p b).drop q).take k = (b.drop (q - p)).take k := by
  apply List.ext_getElem?
  intro i
  rw [List.getElem?_take, List.getElem?_take]
  split
  · rw [List.getElem?_drop, List.getElem?_drop]
    unfold patch
    rw [List.getElem?_append_right (by simp; omega), List.getElem?_append_left (by simp; omega)]
    congr 1
    simp
    omega
  · rfl
/-- a frame that was laid is read -/
theorem piece_frame {M f : List UInt8} {p : Nat} (h : p + (12 + f.length) ≤ M.length) : ((patch M p (vFrame f)).drop (p + 12)).take f.length = f := by
  have hl : (vFrame f).length = 12 + f.length := by unfold vFrame; rw [List.length_append, List.length_replicate]
  rw [piece_patch (by rw [hl]; exact h) (by omega) (by rw [hl]; omega), show p + 12 - p = 12 by omega]
  unfold vFrame
  rw [List.drop_append_of_le_length (by simp), List.drop_of_length_le (by simp), List.nil_append, List.take_of_length_le (Nat.le_refl _)]

/-! ### Give -/
section
variable {M : List UInt8} {b n put head len : Nat}
theorem giveM_parts (hn : 0 < n) (hb : b + vSize n ≤ M.length) (hh : head < 4294967296) (hl : len < 4294967296) :
    (vGiveM M b n put head len).length = M.length ∧ (∀ lo hi, hi ≤ b + (18 * n + 4) ∨ b + vSize n ≤ lo → Same M (vGiveM M b n put head len) lo hi) ∧
    leAt (vGiveM M b n put head len) (b + (18 * n + 4 + 2)) 2 = (put + 1) % 65536 ∧ leAt (vGiveM M b n put head len) (b + (18 * n + 4 + 4 + 8 * (put % n))) 4 = head ∧ leAt (vGiveM M b n put head len) (b + (18 * n + 4 + 4 + 8 * (put % n) + 4)) 4 = len ∧
    ∀ j, j < n → j ≠ put % n → leAt (vGiveM M b n put head len) (b + (18 * n + 4 + 4 + 8 * j)) 4 = leAt M (b + (18 * n + 4 + 4 + 8 * j)) 4 ∧ leAt (vGiveM M b n put head len) (b + (18 * n + 4 + 4 + 8 * j + 4)) 4 = leAt M (b + (18 * n + 4 + 4 + 8 * j + 4)) 4 := by
  have hm : put % n < n := Nat.mod_lt _ hn
  unfold vSize at hb ⊢
  unfold vGiveM
  generalize put % n = s at *
  have e1 : (putAt M (b + (18 * n + 4 + 4 + 8 * s)) 4 head).length = M.length := putAt_len (by omega)
  have e2 : (putAt (putAt M (b + (18 * n + 4 + 4 + 8 * s)) 4 head) (b + (18 * n + 4 + 4 + 8 * s + 4)) 4 len).length = M.length := by rw [putAt_len (by omega), e1]
  refine ⟨by rw [putAt_len (by omega), e2], fun lo hi h => ?_, ?_, ?_, ?_, fun j hj hne => ⟨?_, ?_⟩⟩
  · exact ((same_put (by omega) (by omega)).trans (same_put (by omega) (by omega))).trans (same_put (by omega) (by omega))
  · exact leAt_same (by omega) (by omega)
  · rw [leAt_put (by omega) (by omega), leAt_put (by omega) (by omega)]
    exact leAt_same (by omega) (by omega)
  · rw [leAt_put (by omega) (by omega)]
    exact leAt_same (by omega) (by omega)
  · rw [leAt_put (by omega) (by omega), leAt_put (by omega) (by omega), leAt_put (by omega) (by omega)]
  · rw [leAt_put (by omega) (by omega), leAt_put (by omega) (by omega), leAt_put (by omega) (by omega)]
end
/-! ### Add -/
section
variable {M : List UInt8} {b n put i addr len fl : Nat}
theorem addM_parts (hn : 0 < n) (hi : i < n) (hb : b + vSize n ≤ M.length) (hn2 : n ≤ 256) (ha : addr < 18446744073709551616) (hl : len < 4294967296) (hf : fl < 65536) :
    (vAddM M b n put i addr len fl).length = M.length ∧ (∀ lo hi, hi ≤ b ∨ b + (18 * n + 4) ≤ lo → Same M (vAddM M b n put i addr len fl) lo hi) ∧
    leAt (vAddM M b n put i addr len fl) (b + (16 * n + 2)) 2 = (put + 1) % 65536 ∧
    (∀ j, j < n → leAt (vAddM M b n put i addr len fl) (b + (16 * n + 4 + 2 * j)) 2 = if j = put % n then i else leAt M (b + (16 * n + 4 + 2 * j)) 2) ∧
    (leAt (vAddM M b n put i addr len fl) (b + 16 * i) 8 = addr ∧ leAt (vAddM M b n put i addr len fl) (b + (16 * i + 8)) 4 = len ∧ leAt (vAddM M b n put i addr len fl) (b + (16 * i + 12)) 2 = fl) ∧
    ∀ j, j < n → j ≠ i → leAt (vAddM M b n put i addr len fl) (b + 16 * j) 8 = leAt M (b + 16 * j) 8 ∧ leAt (vAddM M b n put i addr len fl) (b + (16 * j + 8)) 4 = leAt M (b + (16 * j + 8)) 4 ∧ leAt (vAddM M b n put i addr len fl) (b + (16 * j + 12)) 2 = leAt M (b + (16 * j + 12)) 2 := by
  have hm : put % n < n := Nat.mod_lt _ hn
  unfold vSize at hb
  unfold vAddM
  generalize put % n = s at *
  obtain ⟨M1, h1⟩ : ∃ x, putAt M (b + 16 * i) 8 addr = x := ⟨_, rfl⟩
  obtain ⟨M2, h2⟩ : ∃ x, putAt M1 (b + (16 * i + 8)) 4 len = x := ⟨_, rfl⟩
  obtain ⟨M3, h3⟩ : ∃ x, putAt M2 (b + (16 * i + 12)) 2 fl = x := ⟨_, rfl⟩
  obtain ⟨M4, h4⟩ : ∃ x, putAt M3 (b + (16 * i + 14)) 2 0 = x := ⟨_, rfl⟩
  obtain ⟨M5, h5⟩ : ∃ x, putAt M4 (b + (16 * n + 4 + 2 * s)) 2 i = x := ⟨_, rfl⟩
  rw [h1, h2, h3, h4, h5]
  have e1 : M1.length = M.length := by rw [← h1]; exact putAt_len (by omega)
  have e2 : M2.length = M.length := by rw [← h2, putAt_len (by omega), e1]
  have e3 : M3.length = M.length := by rw [← h3, putAt_len (by omega), e2]
  have e4 : M4.length = M.length := by rw [← h4, putAt_len (by omega), e3]
  have e5 : M5.length = M.length := by rw [← h5, putAt_len (by omega), e4]
  have p1 : ∀ q k, q + k ≤ b + 16 * i ∨ b + 16 * i + 8 ≤ q → leAt M1 q k = leAt M q k := fun q k h => by rw [← h1]; exact leAt_put (by omega) (by omega)
  have p2 : ∀ q k, q + k ≤ b + (16 * i + 8) ∨ b + (16 * i + 8) + 4 ≤ q → leAt M2 q k = leAt M1 q k := fun q k h => by rw [← h2]; exact leAt_put (by omega) (by omega)
  have p3 : ∀ q k, q + k ≤ b + (16 * i + 12) ∨ b + (16 * i + 12) + 2 ≤ q → leAt M3 q k = leAt M2 q k := fun q k h => by rw [← h3]; exact leAt_put (by omega) (by omega)
  have p4 : ∀ q k, q + k ≤ b + (16 * i + 14) ∨ b + (16 * i + 14) + 2 ≤ q → leAt M4 q k = leAt M3 q k := fun q k h => by rw [← h4]; exact leAt_put (by omega) (by omega)
  have p5 : ∀ q k, q + k ≤ b + (16 * n + 4 + 2 * s) ∨ b + (16 * n + 4 + 2 * s) + 2 ≤ q → leAt M5 q k = leAt M4 q k := fun q k h => by rw [← h5]; exact leAt_put (by omega) (by omega)
  have p6 : ∀ q k, q + k ≤ b + (16 * n + 2) ∨ b + (16 * n + 2) + 2 ≤ q → leAt (putAt M5 (b + (16 * n + 2)) 2 ((put + 1) % 65536)) q k = leAt M5 q k := fun q k h => leAt_put (by omega) (by omega)
  have s6 : ∀ lo hi, hi ≤ b ∨ b + (18 * n + 4) ≤ lo → Same M (putAt M5 (b + (16 * n + 2)) 2 ((put + 1) % 65536)) lo hi := fun lo hi h => by
    have a1 : Same M M1 lo hi := by rw [← h1]; exact same_put (by omega) (by omega)
    have a2 : Same M1 M2 lo hi := by rw [← h2]; exact same_put (by omega) (by omega)
    have a3 : Same M2 M3 lo hi := by rw [← h3]; exact same_put (by omega) (by omega)
    have a4 : Same M3 M4 lo hi := by rw [← h4]; exact same_put (by omega) (by omega)
    have a5 : Same M4 M5 lo hi := by rw [← h5]; exact same_put (by omega) (by omega)
    exact ((((a1.trans a2).trans a3).trans a4).trans a5).trans (same_put (by omega) (by omega))
  refine ⟨by rw [putAt_len (by omega), e5], s6, leAt_same (by omega) (by omega), fun j hj => ?_, ⟨?_, ?_, ?_⟩, fun j hj hne => ⟨?_, ?_, ?_⟩⟩
  · rw [p6 _ _ (by omega)]
    by_cases e : j = s
    · subst e
      rw [if_pos rfl, ← h5]
      exact leAt_same (by omega) (by omega)
    · rw [if_neg e, p5 _ _ (by omega), p4 _ _ (by omega), p3 _ _ (by omega), p2 _ _ (by omega), p1 _ _ (by omega)]
  · rw [p6 _ _ (by omega), p5 _ _ (by omega), p4 _ _ (by omega), p3 _ _ (by omega), p2 _ _ (by omega), ← h1]
    exact leAt_same (by omega) (by omega)
  · rw [p6 _ _ (by omega), p5 _ _ (by omega), p4 _ _ (by omega), p3 _ _ (by omega), ← h2]
    exact leAt_same (by omega) (by omega)
  · rw [p6 _ _ (by omega), p5 _ _ (by omega), p4 _ _ (by omega), ← h3]
    exact leAt_same (by omega) (by omega)
  · rw [p6 _ _ (by omega), p5 _ _ (by omega), p4 _ _ (by omega), p3 _ _ (by omega), p2 _ _ (by omega), p1 _ _ (by omega)]
  · rw [p6 _ _ (by omega), p5 _ _ (by omega), p4 _ _ (by omega), p3 _ _ (by omega), p2 _ _ (by omega), p1 _ _ (by omega)]
  · rw [p6 _ _ (by omega), p5 _ _ (by omega), p4 _ _ (by omega), p3 _ _ (by omega), p2 _ _ (by omega), p1 _ _ (by omega)]
end
end
section
set_option linter.unusedVariables false

/-- r frames were received, those of W were delivered since -/
structure InFlow (M : List UInt8) (b n r : Nat) (ci : VQ) (pi : VD) (W : List (List UInt8)) : Prop where
  n1 : 1 ≤ n
  n2 : n ≤ 256
  dv : n ∣ 65536
  big : M.length ≤ 1000000
  len : b + 2 * vSize n + 2 * n * 1528 ≤ M.length
  cgot : ci.got = r % 65536
  cput : ci.put = (r + n) % 65536
  blen : ci.busy.length = n
  busy : ∀ j, j < n → ci.busy[j]? = some true
  pgot : pi.got = (r + W.length) % 65536
  pput : pi.put = (r + W.length) % 65536
  av : leAt M (b + (16 * n + 2)) 2 = (r + n) % 65536
  us : leAt M (b + (18 * n + 4 + 2)) 2 = (r + W.length) % 65536
  ring : ∀ j, j < n → leAt M (b + (16 * n + 4 + 2 * j)) 2 = j
  desc : ∀ j, j < n → leAt M (b + 16 * j) 8 = vPlace b n j ∧ leAt M (b + (16 * j + 8)) 4 = 1526 ∧ leAt M (b + (16 * j + 12)) 2 = 2
  used : ∀ k f, W[k]? = some f → leAt M (b + (18 * n + 4 + 4 + 8 * ((r + k) % n))) 4 = (r + k) % n ∧ leAt M (b + (18 * n + 4 + 4 + 8 * ((r + k) % n) + 4)) 4 = 12 + f.length ∧ (M.drop (vPlace b n ((r + k) % n) + 12)).take f.length = f ∧ 14 ≤ f.length ∧ f.length ≤ 1514
  wn : W.length ≤ n
theorem mod_slot {n x : Nat} (h : n ∣ 65536) : x % 65536 % n = x % n := Nat.mod_mod_of_dvd x h
theorem slot_ne {n r i k : Nat} (hn : 0 < n) (hi : i < k) (hk : k < i + n) : (r + i) % n ≠ (r + k) % n := by
  intro e
  have h1 := Nat.div_add_mod (r + i) n
  have h2 := Nat.div_add_mod (r + k) n
  rw [e] at h1
  have h3 : n * ((r + k) / n) = n * ((r + i) / n) + (k - i) := by omega
  have h4 : (r + i) / n < (r + k) / n := by
    rcases Nat.lt_or_ge ((r + i) / n) ((r + k) / n) with h | h
    · exact h
    · have := Nat.mul_le_mul_left n h
      omega
  have h5 : n * ((r + i) / n + 1) ≤ n * ((r + k) / n) := Nat.mul_le_mul_left n h4
  rw [Nat.mul_add, Nat.mul_one] at h5
  omega
/-- what is written elsewhere changes nothing -/
theorem InFlow.same {M M' : List UInt8} {b n r : Nat} {ci : VQ} {pi : VD} {W : List (List UInt8)} (h : InFlow M b n r ci pi W) (hl : M'.length = M.length) (h1 : Same M M' b (b + vSize n)) (h2 : Same M M' (b + 2 * vSize n) (b + 2 * vSize n + n * 1528)) : InFlow M' b n r ci pi W := by
  have hS : vSize n = 8 + 26 * n := rfl
  have hn := h.n1
  refine ⟨h.n1, h.n2, h.dv, by rw [hl]; exact h.big, by rw [hl]; exact h.len, h.cgot, h.cput, h.blen, h.busy, h.pgot, h.pput, ?_, ?_, fun j hj => ?_, fun j hj => ?_, fun k f hk => ?_, h.wn⟩
  · rw [h1.le (by omega) (by omega)]; exact h.av
  · rw [h1.le (by omega) (by omega)]; exact h.us
  · rw [h1.le (by omega) (by omega)]; exact h.ring j hj
  · rw [h1.le (by omega) (by omega), h1.le (by omega) (by omega), h1.le (by omega) (by omega)]; exact h.desc j hj
  · obtain ⟨u1, u2, u3, u4, u5⟩ := h.used k f hk
    have hm : (r + k) % n < n := Nat.mod_lt _ h.n1
    generalize (r + k) % n = s at *
    have hp : vPlace b n s = b + 2 * vSize n + s * 1528 := rfl
    have hs : s * 1528 + 1528 ≤ n * 1528 := by omega
    exact ⟨by rw [h1.le (by omega) (by omega)]; exact u1, by rw [h1.le (by omega) (by omega)]; exact u2, by rw [h2.piece (by omega) (by omega)]; exact u3, u4, u5⟩
/-- a frame is delivered -/
theorem in_deliver {M : List UInt8} {b n r : Nat} {ci : VQ} {pi : VD} {W : List (List UInt8)} {f : List UInt8} (h : InFlow M b n r ci pi W) (h14 : 14 ≤ f.length) (h1514 : f.length ≤ 1514) (hw : W.length < n) :
    ∃ M' pi', vDeliver b n f 65536 M pi = (0, M', pi') ∧ InFlow M' b n r ci pi' (W ++ [f]) ∧ M'.length = M.length ∧ Same M M' (b + vSize n) (b + 2 * vSize n) ∧ Same M M' (b + 2 * vSize n + n * 1528) M.length := by
  have hS : vSize n = 8 + 26 * n := rfl
  have hn := h.n1
  have hn2 := h.n2
  have hlen := h.len
  have hbig := h.big
  obtain ⟨s, hs⟩ : ∃ s, (r + W.length) % n = s := ⟨_, rfl⟩
  have hsn : s < n := by rw [← hs]; exact Nat.mod_lt _ hn
  have hgs : pi.got % n = s := by rw [h.pgot, mod_slot h.dv, hs]
  have hps : pi.put % n = s := by rw [h.pput, mod_slot h.dv, hs]
  have hp : vPlace b n s = b + 2 * vSize n + s * 1528 := rfl
  have hsm : s * 1528 + 1528 ≤ n * 1528 := by omega
  obtain ⟨P, hP⟩ : ∃ P, vPlace b n s = P := ⟨_, rfl⟩
  have hdesc := h.desc s hsn
  rw [hP] at hdesc
  obtain ⟨d1, d2, d3⟩ := hdesc
  have hch : vChain M b n (n + 1) s [] = some [⟨P, 1526, true⟩] := by
    rw [vChain]
    rw [if_neg (by simp; omega), if_neg (by omega)]
    simp only [d1, d2, d3]
    rfl
  have hPl : P + 1526 ≤ M.length := by omega
  have htk : vTake M b n pi = some (some (s, [⟨P, 1526, true⟩]), { pi with got := (pi.got + 1) % 65536 }) := by
    unfold vTake
    rw [if_neg (by rw [h.av, h.pgot]; omega)]
    simp only [hgs, h.ring s hsn, hch]
    rfl
  have hpc : vPiece M [⟨P, 1526, true⟩] (12 + f.length) true = true := by
    show (decide (12 + f.length ≤ 1526) && (true == true) && decide (P + 1526 ≤ M.length)) = true
    rw [decide_eq_true (by omega), decide_eq_true hPl]
    rfl
  have hfl : (vFrame f).length = 12 + f.length := by unfold vFrame; rw [List.length_append, List.length_replicate]
  have hfit : P + (vFrame f).length ≤ M.length := by rw [hfl]; omega
  obtain ⟨M1, hM1⟩ : ∃ M1, patch M P (vFrame f) = M1 := ⟨_, rfl⟩
  have hl1 : M1.length = M.length := by rw [← hM1]; exact patch_len hfit
  have hs1 : ∀ lo hi, hi ≤ P ∨ P + 1526 ≤ lo → Same M M1 lo hi := fun lo hi hh => by rw [← hM1]; exact same_patch hfit (by rw [hfl]; omega)
  have hf1 : (M1.drop (P + 12)).take f.length = f := by rw [← hM1]; exact piece_frame (by omega)
  obtain ⟨g1, g2, g3, g4, g5, g6⟩ := giveM_parts (M := M1) (b := b) (n := n) (put := pi.put) (head := s) (len := 12 + f.length) hn (by omega) (by omega) (by omega)
  have hv : vDeliver b n f 65536 M pi = (0, vGiveM M1 b n pi.put s (12 + f.length), VD.give { pi with got := (pi.got + 1) % 65536 }) := by
    show vDeliver b n f (65535 + 1) M pi = _
    rw [vDeliver, htk]
    simp only [hpc, if_true, List.headD_cons, hM1]
  obtain ⟨M', hM'⟩ : ∃ M', vGiveM M1 b n pi.put s (12 + f.length) = M' := ⟨_, rfl⟩
  rw [hM'] at hv g1 g2 g3 g4 g5 g6
  rw [hps] at g4 g5 g6
  have hr1 : ∀ q k, b ≤ q → q + k ≤ b + (18 * n + 4) → leAt M' q k = leAt M q k := fun q k a1 a2 => by
    rw [(g2 b (b + (18 * n + 4)) (.inl (Nat.le_refl _))).le a1 a2, (hs1 b (b + (18 * n + 4)) (.inl (by omega))).le a1 a2]
  have hr2 : ∀ lo hi, b + vSize n ≤ lo → hi ≤ P ∨ P + 1526 ≤ lo → Same M M' lo hi := fun lo hi a1 a2 => (hs1 lo hi a2).trans (g2 lo hi (.inr a1))
  have hr3 : ∀ q k, q + k ≤ P → b + (18 * n + 4) ≤ q → leAt M1 q k = leAt M q k := fun q k a1 a2 => (hs1 q (q + k) (.inl a1)).le (Nat.le_refl _) (Nat.le_refl _)
  have hwl : (W ++ [f]).length = W.length + 1 := by rw [List.length_append, List.length_singleton]
  refine ⟨M', _, hv, ⟨h.n1, h.n2, h.dv, by omega, by omega, h.cgot, h.cput, h.blen, h.busy, ?_, ?_, ?_, ?_, fun j hj => ?_, fun j hj => ?_, fun k g hk => ?_, by rw [hwl]; omega⟩, by omega, hr2 _ _ (Nat.le_refl _) (.inl (by omega)), hr2 _ _ (by omega) (.inr (by omega))⟩
  · show (pi.got + 1) % 65536 = _
    rw [h.pgot, hwl]; omega
  · show (pi.put + 1) % 65536 = _
    rw [h.pput, hwl]; omega
  · rw [hr1 _ _ (by omega) (by omega)]; exact h.av
  · rw [g3, h.pput, hwl]; omega
  · rw [hr1 _ _ (by omega) (by omega)]; exact h.ring j hj
  · rw [hr1 _ _ (by omega) (by omega), hr1 _ _ (by omega) (by omega), hr1 _ _ (by omega) (by omega)]; exact h.desc j hj
  · by_cases hkw : k < W.length
    · rw [List.getElem?_append_left hkw] at hk
      obtain ⟨u1, u2, u3, u4, u5⟩ := h.used k g hk
      have hne : (r + k) % n ≠ s := by rw [← hs]; exact slot_ne hn hkw (by omega)
      have hm : (r + k) % n < n := Nat.mod_lt _ hn
      generalize (r + k) % n = t at *
      obtain ⟨v1, v2⟩ := g6 t hm hne
      have hpt : vPlace b n t = b + 2 * vSize n + t * 1528 := rfl
      refine ⟨by rw [v1, hr3 _ _ (by omega) (by omega)]; exact u1, by rw [v2, hr3 _ _ (by omega) (by omega)]; exact u2, ?_, u4, u5⟩
      rw [(hr2 (vPlace b n t) (vPlace b n t + 1526) (by omega) (by omega)).piece (by omega) (by omega)]
      exact u3
    · have hkl : k = W.length := by
        have := (List.getElem?_eq_some_iff.1 hk).1
        omega
      subst hkl
      rw [List.getElem?_append_right (Nat.le_refl _), Nat.sub_self] at hk
      simp at hk
      subst hk
      rw [hs, hP]
      exact ⟨g4, g5, by rw [(g2 P (P + 1526) (.inr (by omega))).piece (by omega) (by omega)]; exact hf1, h14, h1514⟩
/-- no place is left -/
theorem in_full {M : List UInt8} {b n r : Nat} {ci : VQ} {pi : VD} {W : List (List UInt8)} {f : List UInt8} (h : InFlow M b n r ci pi W) (hw : W.length = n) : vDeliver b n f 65536 M pi = (7, M, pi) := by
  show vDeliver b n f (65535 + 1) M pi = _
  have ht : vTake M b n pi = none := by
    unfold vTake
    rw [if_pos (by rw [h.av, h.pgot, hw])]
  rw [vDeliver, ht]
/-- what was delivered is received -/
theorem in_receive_go {b n : Nat} {pi : VD} : ∀ (W : List (List UInt8)) (M : List UInt8) (r k : Nat) (ci : VQ) (out : List (List UInt8)), InFlow M b n r ci pi W → W.length < k →
    ∃ M' ci', vReceive b n k M ci out = (out ++ W, M', ci') ∧ InFlow M' b n (r + W.length) ci' pi [] ∧ M'.length = M.length ∧ Same M M' (b + vSize n) M.length := by
  intro W
  induction W with
  | nil =>
    intro M r k ci out h hk
    obtain ⟨k, rfl⟩ : ∃ x, k = x + 1 := ⟨k - 1, by omega⟩
    have hu : vUsed M b n ci = none := by
      unfold vUsed
      rw [if_pos (by rw [h.us, h.cgot]; rfl)]
    have hb : vBack M b n 65536 ci = (none, ci) := by
      show vBack M b n (65535 + 1) ci = _
      rw [vBack, hu]
    refine ⟨M, ci, ?_, h, rfl, Same.refl _ _ _⟩
    rw [vReceive, hb, List.append_nil]
  | cons f W ih =>
    intro M r k ci out h hk
    rw [List.length_cons] at hk
    obtain ⟨k, rfl⟩ : ∃ x, k = x + 1 := ⟨k - 1, by omega⟩
    have hS : vSize n = 8 + 26 * n := rfl
    have hn := h.n1
    have hn2 := h.n2
    have hlen := h.len
    have hbig := h.big
    have hwn := h.wn
    have hpg := h.pgot
    have hpp := h.pput
    have hus := h.us
    rw [List.length_cons] at hwn hpg hpp hus
    obtain ⟨s, hs⟩ : ∃ s, r % n = s := ⟨_, rfl⟩
    have hsn : s < n := by rw [← hs]; exact Nat.mod_lt _ hn
    have hgs : ci.got % n = s := by rw [h.cgot, mod_slot h.dv, hs]
    have hps : ci.put % n = s := by rw [h.cput, mod_slot h.dv, Nat.add_mod_right, hs]
    have hp : vPlace b n s = b + 2 * vSize n + s * 1528 := rfl
    have hsm : s * 1528 + 1528 ≤ n * 1528 := by omega
    obtain ⟨P, hP⟩ : ∃ P, vPlace b n s = P := ⟨_, rfl⟩
    obtain ⟨u1, u2, u3, u4, u5⟩ := h.used 0 f rfl
    have e0 : (r + 0) % n = s := hs
    rw [e0] at u1 u2 u3
    rw [hP] at u3
    have hbs : ci.busy[s]? = some true := h.busy s hsn
    have hu : vUsed M b n ci = some (some (s, 12 + f.length), { ci with got := (ci.got + 1) % 65536, busy := ci.busy.set s false }) := by
      unfold vUsed
      rw [if_neg (by rw [hus, h.cgot]; omega)]
      simp only [hgs, u1, u2, hbs, if_true]
    have hb : vBack M b n 65536 ci = (some (s, 12 + f.length), { ci with got := (ci.got + 1) % 65536, busy := ci.busy.set s false }) := by
      show vBack M b n (65535 + 1) ci = _
      rw [vBack, hu]
    have hrec : vReceive b n (k + 1) M ci out = vReceive b n k (vAddM M b n ci.put s P 1526 2) (VQ.add { ci with got := (ci.got + 1) % 65536, busy := ci.busy.set s false } s) (out ++ [f]) := by
      rw [vReceive, hb]
      simp only [hP]
      rw [if_pos (by omega), show 12 + f.length - 12 = f.length by omega, u3]
    obtain ⟨a1, a2, a3, a4, a5, a6⟩ := addM_parts (M := M) (b := b) (n := n) (put := ci.put) (i := s) (addr := P) (len := 1526) (fl := 2) hn hsn (by omega) hn2 (by omega) (by decide) (by decide)
    rw [hrec]
    obtain ⟨M2, hM2⟩ : ∃ M2, vAddM M b n ci.put s P 1526 2 = M2 := ⟨_, rfl⟩
    rw [hM2] at a1 a2 a3 a4 a5 a6 ⊢
    rw [hps] at a4
    have hin : InFlow M2 b n (r + 1) (VQ.add { ci with got := (ci.got + 1) % 65536, busy := ci.busy.set s false } s) pi W := by
      refine ⟨hn, hn2, h.dv, by omega, by omega, ?_, ?_, ?_, fun j hj => ?_, ?_, ?_, ?_, ?_, fun j hj => ?_, fun j hj => ?_, fun j g hj => ?_, by omega⟩
      · show (ci.got + 1) % 65536 = _
        rw [h.cgot]; omega
      · show (ci.put + 1) % 65536 = _
        rw [h.cput]; omega
      · show ((ci.busy.set s false).set s true).length = n
        rw [List.length_set, List.length_set, h.blen]
      · show ((ci.busy.set s false).set s true)[j]? = some true
        rw [List.getElem?_set]
        by_cases e : s = j
        · rw [if_pos e, if_pos (by rw [List.length_set, h.blen]; exact hsn)]
        · rw [if_neg e, List.getElem?_set, if_neg e]
          exact h.busy j hj
      · rw [hpg]; congr 1; omega
      · rw [hpp]; congr 1; omega
      · rw [a3, h.cput]; omega
      · rw [(a2 (b + (18 * n + 4)) (b + vSize n) (.inr (Nat.le_refl _))).le (by omega) (by omega), hus]; congr 1; omega
      · rw [a4 j hj]
        by_cases e : j = s
        · rw [if_pos e, e]
        · rw [if_neg e]
          exact h.ring j hj
      · by_cases e : j = s
        · subst e
          rw [hP]
          exact a5
        · obtain ⟨c1, c2, c3⟩ := a6 j hj e
          rw [c1, c2, c3]
          exact h.desc j hj
      · obtain ⟨v1, v2, v3, v4, v5⟩ := h.used (j + 1) g hj
        have hm : (r + (j + 1)) % n < n := Nat.mod_lt _ hn
        rw [show r + 1 + j = r + (j + 1) by omega]
        generalize (r + (j + 1)) % n = t at *
        have hpt : vPlace b n t = b + 2 * vSize n + t * 1528 := rfl
        have hsame := a2 (b + (18 * n + 4)) M.length (.inr (Nat.le_refl _))
        refine ⟨by rw [hsame.le (by omega) (by omega)]; exact v1, by rw [hsame.le (by omega) (by omega)]; exact v2, by rw [hsame.piece (by omega) (by omega)]; exact v3, v4, v5⟩
    obtain ⟨M', ci', e1, e2, e3, e4⟩ := ih M2 (r + 1) k _ (out ++ [f]) hin (by omega)
    refine ⟨M', ci', ?_, ?_, by omega, (a2 _ _ (.inr (by omega))).trans (by rw [a1] at e4; exact e4)⟩
    · rw [e1, List.append_assoc]; rfl
    · rw [List.length_cons, show r + (W.length + 1) = r + 1 + W.length by omega]
      exact e2
theorem in_receive {M : List UInt8} {b n r : Nat} {ci : VQ} {pi : VD} {W : List (List UInt8)} (h : InFlow M b n r ci pi W) :
    ∃ M' ci', vReceive b n 65536 M ci [] = (W, M', ci') ∧ InFlow M' b n (r + W.length) ci' pi [] ∧ M'.length = M.length ∧ Same M M' (b + vSize n) M.length := by
  have := h.wn
  have := h.n2
  exact in_receive_go W M r 65536 ci [] h (by omega)
end
end Go.Proofs.Ytgiegiobigdplaa
