/- The plain law of the two queues, one: what stays, what is written. No program is named here. -/
import Derived.Test.YtgiegiobigdplaaVnS
namespace Go.Proofs.Ytgiegiobigdplaa

/-- what lies there is the same -/
def Same (M M' : List UInt8) (lo hi : Nat) : Prop := ∀ i, lo ≤ i → i < hi → M'[i]? = M[i]?
theorem Same.refl (M : List UInt8) (lo hi : Nat) : Same M M lo hi := fun _ _ _ => rfl
theorem Same.trans {M M' M'' : List UInt8} {lo hi : Nat} (h : Same M M' lo hi) (k : Same M' M'' lo hi) : Same M M'' lo hi := fun i h1 h2 => (k i h1 h2).trans (h i h1 h2)
theorem Same.sub {M M' : List UInt8} {lo hi lo' hi' : Nat} (h : Same M M' lo hi) (h1 : lo ≤ lo') (h2 : hi' ≤ hi) : Same M M' lo' hi' := fun i a b => h i (Nat.le_trans h1 a) (Nat.lt_of_lt_of_le b h2)
theorem Same.piece {M M' : List UInt8} {lo hi : Nat} (h : Same M M' lo hi) {q k : Nat} (h1 : lo ≤ q) (h2 : q + k ≤ hi) : (M'.drop q).take k = (M.drop q).take k := by
  apply List.ext_getElem?
  intro i
  rw [List.getElem?_take, List.getElem?_take]
  split
  · rw [List.getElem?_drop, List.getElem?_drop]
    exact h _ (by omega) (by omega)
  · rfl
theorem Same.le {M M' : List UInt8} {lo hi : Nat} (h : Same M M' lo hi) {q k : Nat} (h1 : lo ≤ q) (h2 : q + k ≤ hi) : leAt M' q k = leAt M q k := by
  unfold leAt
  rw [h.piece h1 h2]
theorem same_patch {M b : List UInt8} {p lo hi : Nat} (h : p + b.length ≤ M.length) (ha : hi ≤ p ∨ p + b.length ≤ lo) : Same M (patch M p b) lo hi := by
  intro i h1 h2
  unfold patch
  rcases ha with ha | ha
  · rw [List.getElem?_append_left (by simp; omega), List.getElem?_take, if_pos (by omega)]
  · rw [List.getElem?_append_right (by simp; omega), List.getElem?_append_right (by simp; omega), List.getElem?_drop]
    congr 1
    simp
    omega
theorem same_put {M : List UInt8} {p k v lo hi : Nat} (h : p + k ≤ M.length) (ha : hi ≤ p ∨ p + k ≤ lo) : Same M (putAt M p k v) lo hi := same_patch (by rw [leBytes_len]; exact h) (by rw [leBytes_len]; exact ha)
theorem piece_patch {M b : List UInt8} {p q k : Nat} (h : p + b.length ≤ M.length) (h1 : p ≤ q) (h2 : q + k ≤ p + b.length) : ((patch M p b).drop q).take k = (b.drop (q - p)).take k := by
  apply List.ext_getElem?
  intro i
  rw [List.getElem?_take, List.getElem?_take]
  split
  · rw [List.getElem?_drop, List.getElem?_drop]
    unfold patch
    rw [List.getElem?_append_right (by simp; omega), List.getElem?_append_left (by simp; omega)]
    congr 1
    simp
    omega
  · rfl
/-- a frame that was laid is read -/
theorem piece_frame {M f : List UInt8} {p : Nat} (h : p + (12 + f.length) ≤ M.length) : ((patch M p (vFrame f)).drop (p + 12)).take f.length = f := by
  have hl : (vFrame f).length = 12 + f.length := by unfold vFrame; rw [List.length_append, List.length_replicate]
  rw [piece_patch (by rw [hl]; exact h) (by omega) (by rw [hl]; omega), show p + 12 - p = 12 by omega]
  unfold vFrame
  rw [List.drop_append_of_le_length (by simp), List.drop_of_length_le (by simp), List.nil_append, List.take_of_length_le (Nat.le_refl _)]

/-! ### Give -/
section
variable {M : List UInt8} {b n put head len : Nat}
theorem giveM_parts (hn : 0 < n) (hb : b + vSize n ≤ M.length) (hh : head < 4294967296) (hl : len < 4294967296) :
    (vGiveM M b n put head len).length = M.length ∧ (∀ lo hi, hi ≤ b + (18 * n + 4) ∨ b + vSize n ≤ lo → Same M (vGiveM M b n put head len) lo hi) ∧
    leAt (vGiveM M b n put head len) (b + (18 * n + 4 + 2)) 2 = (put + 1) % 65536 ∧ leAt (vGiveM M b n put head len) (b + (18 * n + 4 + 4 + 8 * (put % n))) 4 = head ∧ leAt (vGiveM M b n put head len) (b + (18 * n + 4 + 4 + 8 * (put % n) + 4)) 4 = len ∧
    ∀ j, j < n → j ≠ put % n → leAt (vGiveM M b n put head len) (b + (18 * n + 4 + 4 + 8 * j)) 4 = leAt M (b + (18 * n + 4 + 4 + 8 * j)) 4 ∧ leAt (vGiveM M b n put head len) (b + (18 * n + 4 + 4 + 8 * j + 4)) 4 = leAt M (b + (18 * n + 4 + 4 + 8 * j + 4)) 4 := by
  have hm : put % n < n := Nat.mod_lt _ hn
  unfold vSize at hb ⊢
  unfold vGiveM
  generalize put % n = s at *
  have e1 : (putAt M (b + (18 * n + 4 + 4 + 8 * s)) 4 head).length = M.length := putAt_len (by omega)
  have e2 : (putAt (putAt M (b + (18 * n + 4 + 4 + 8 * s)) 4 head) (b + (18 * n + 4 + 4 + 8 * s + 4)) 4 len).length = M.length := by rw [putAt_len (by omega), e1]
  refine ⟨by rw [putAt_len (by omega), e2], fun lo hi h => ?_, ?_, ?_, ?_, fun j hj hne => ⟨?_, ?_⟩⟩
  · exact ((same_put (by omega) (by omega)).trans (same_put (by omega) (by omega))).trans (same_put (by omega) (by omega))
  · exact leAt_same (by omega) (by omega)
  · rw [leAt_put (by omega) (by omega), leAt_put (by omega) (by omega)]
    exact leAt_same (by omega) (by omega)
  · rw [leAt_put (by omega) (by omega)]
    exact leAt_same (by omega) (by omega)
  · rw [leAt_put (by omega) (by omega), leAt_put (by omega) (by omega), leAt_put (by omega) (by omega)]
  · rw [leAt_put (by omega) (by omega), leAt_put (by omega) (by omega), leAt_put (by omega) (by omega)]
end
/-! ### Add -/
section
variable {M : List UInt8} {b n put i addr len fl : Nat}
theorem addM_parts (hn : 0 < n) (hi : i < n) (hb : b + vSize n ≤ M.length) (hn2 : n ≤ 256) (ha : addr < 18446744073709551616) (hl : len < 4294967296) (hf : fl < 65536) :
    (vAddM M b n put i addr len fl).length = M.length ∧ (∀ lo hi, hi ≤ b ∨ b + (18 * n + 4) ≤ lo → Same M (vAddM M b n put i addr len fl) lo hi) ∧
    leAt (vAddM M b n put i addr len fl) (b + (16 * n + 2)) 2 = (put + 1) % 65536 ∧
    (∀ j, j < n → leAt (vAddM M b n put i addr len fl) (b + (16 * n + 4 + 2 * j)) 2 = if j = put % n then i else leAt M (b + (16 * n + 4 + 2 * j)) 2) ∧
    (leAt (vAddM M b n put i addr len fl) (b + 16 * i) 8 = addr ∧ leAt (vAddM M b n put i addr len fl) (b + (16 * i + 8)) 4 = len ∧ leAt (vAddM M b n put i addr len fl) (b + (16 * i + 12)) 2 = fl) ∧
    ∀ j, j < n → j ≠ i → leAt (vAddM M b n put i addr len fl) (b + 16 * j) 8 = leAt M (b + 16 * j) 8 ∧ leAt (vAddM M b n put i addr len fl) (b + (16 * j + 8)) 4 = leAt M (b + (16 * j + 8)) 4 ∧ leAt (vAddM M b n put i addr len fl) (b + (16 * j + 12)) 2 = leAt M (b + (16 * j + 12)) 2 := by
  have hm : put % n < n := Nat.mod_lt _ hn
  unfold vSize at hb
  unfold vAddM
  generalize put % n = s at *
  obtain ⟨M1, h1⟩ : ∃ x, putAt M (b + 16 * i) 8 addr = x := ⟨_, rfl⟩
  obtain ⟨M2, h2⟩ : ∃ x, putAt M1 (b + (16 * i + 8)) 4 len = x := ⟨_, rfl⟩
  obtain ⟨M3, h3⟩ : ∃ x, putAt M2 (b + (16 * i + 12)) 2 fl = x := ⟨_, rfl⟩
  obtain ⟨M4, h4⟩ : ∃ x, putAt M3 (b + (16 * i + 14)) 2 0 = x := ⟨_, rfl⟩
  obtain ⟨M5, h5⟩ : ∃ x, putAt M4 (b + (16 * n + 4 + 2 * s)) 2 i = x := ⟨_, rfl⟩
  rw [h1, h2, h3, h4, h5]
  have e1 : M1.length = M.length := by rw [← h1]; exact putAt_len (by omega)
  have e2 : M2.length = M.length := by rw [← h2, putAt_len (by omega), e1]
  have e3 : M3.length = M.length := by rw [← h3, putAt_len (by omega), e2]
  have e4 : M4.length = M.length := by rw [← h4, putAt_len (by omega), e3]
  have e5 : M5.length = M.length := by rw [← h5, putAt_len (by omega), e4]
  have p1 : ∀ q k, q + k ≤ b + 16 * i ∨ b + 16 * i + 8 ≤ q → leAt M1 q k = leAt M q k := fun q k h => by rw [← h1]; exact leAt_put (by omega) (by omega)
  have p2 : ∀ q k, q + k ≤ b + (16 * i + 8) ∨ b + (16 * i + 8) + 4 ≤ q → leAt M2 q k = leAt M1 q k := fun q k h => by rw [← h2]; exact leAt_put (by omega) (by omega)
  have p3 : ∀ q k, q + k ≤ b + (16 * i + 12) ∨ b + (16 * i + 12) + 2 ≤ q → leAt M3 q k = leAt M2 q k := fun q k h => by rw [← h3]; exact leAt_put (by omega) (by omega)
  have p4 : ∀ q k, q + k ≤ b + (16 * i + 14) ∨ b + (16 * i + 14) + 2 ≤ q → leAt M4 q k = leAt M3 q k := fun q k h => by rw [← h4]; exact leAt_put (by omega) (by omega)
  have p5 : ∀ q k, q + k ≤ b + (16 * n + 4 + 2 * s) ∨ b + (16 * n + 4 + 2 * s) + 2 ≤ q → leAt M5 q k = leAt M4 q k := fun q k h => by rw [← h5]; exact leAt_put (by omega) (by omega)
  have p6 : ∀ q k, q + k ≤ b + (16 * n + 2) ∨ b + (16 * n + 2) + 2 ≤ q → leAt (putAt M5 (b + (16 * n + 2)) 2 ((put + 1) % 65536)) q k = leAt M5 q k := fun q k h => leAt_put (by omega) (by omega)
  have s6 : ∀ lo hi, hi ≤ b ∨ b + (18 * n + 4) ≤ lo → Same M (putAt M5 (b + (16 * n + 2)) 2 ((put + 1) % 65536)) lo hi := fun lo hi h => by
    have a1 : Same M M1 lo hi := by rw [← h1]; exact same_put (by omega) (by omega)
    have a2 : Same M1 M2 lo hi := by rw [← h2]; exact same_put (by omega) (by omega)
    have a3 : Same M2 M3 lo hi := by rw [← h3]; exact same_put (by omega) (by omega)
    have a4 : Same M3 M4 lo hi := by rw [← h4]; exact same_put (by omega) (by omega)
    have a5 : Same M4 M5 lo hi := by rw [← h5]; exact same_put (by omega) (by omega)
    exact ((((a1.trans a2).trans a3).trans a4).trans a5).trans (same_put (by omega) (by omega))
  refine ⟨by rw [putAt_len (by omega), e5], s6, leAt_same (by omega) (by omega), fun j hj => ?_, ⟨?_, ?_, ?_⟩, fun j hj hne => ⟨?_, ?_, ?_⟩⟩
  · rw [p6 _ _ (by omega)]
    by_cases e : j = s
    · subst e
      rw [if_pos rfl, ← h5]
      exact leAt_same (by omega) (by omega)
    · rw [if_neg e, p5 _ _ (by omega), p4 _ _ (by omega), p3 _ _ (by omega), p2 _ _ (by omega), p1 _ _ (by omega)]
  · rw [p6 _ _ (by omega), p5 _ _ (by omega), p4 _ _ (by omega), p3 _ _ (by omega), p2 _ _ (by omega), ← h1]
    exact leAt_same (by omega) (by omega)
  · rw [p6 _ _ (by omega), p5 _ _ (by omega), p4 _ _ (by omega), p3 _ _ (by omega), ← h2]
    exact leAt_same (by omega) (by omega)
  · rw [p6 _ _ (by omega), p5 _ _ (by omega), p4 _ _ (by omega), ← h3]
    exact leAt_same (by omega) (by omega)
  · rw [p6 _ _ (by omega), p5 _ _ (by omega), p4 _ _ (by omega), p3 _ _ (by omega), p2 _ _ (by omega), p1 _ _ (by omega)]
  · rw [p6 _ _ (by omega), p5 _ _ (by omega), p4 _ _ (by omega), p3 _ _ (by omega), p2 _ _ (by omega), p1 _ _ (by omega)]
  · rw [p6 _ _ (by omega), p5 _ _ (by omega), p4 _ _ (by omega), p3 _ _ (by omega), p2 _ _ (by omega), p1 _ _ (by omega)]
end
end Go.Proofs.Ytgiegiobigdplaa
