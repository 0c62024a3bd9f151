/- The plain law of the two queues, four: both of them, from the beginning. No program is named here. -/
import Derived.Test.YtgiegiobigdplaaVnX
namespace Go.Proofs.Ytgiegiobigdplaa
set_option linter.unusedVariables false
set_option maxRecDepth 10000

def Flow (s : VnSt) (b n : Nat) (Wi Wo : List (List UInt8)) : Prop := ∃ r u G, InFlow s.M b n r s.ci s.pi Wi ∧ OutFlow s.M b n u G s.co s.po Wo
theorem Flow.len {s : VnSt} {b n : Nat} {Wi Wo : List (List UInt8)} (h : Flow s b n Wi Wo) : Wi.length ≤ n ∧ Wo.length ≤ n := by
  obtain ⟨r, u, G, h1, h2⟩ := h
  exact ⟨h1.wn, h2.wn⟩
theorem flow_deliver {s : VnSt} {b n : Nat} {Wi Wo : List (List UInt8)} {f : List UInt8} (h : Flow s b n Wi Wo) (h14 : 14 ≤ f.length) (h1514 : f.length ≤ 1514) (hw : Wi.length < n) :
    (vDeliver b n f 65536 s.M s.pi).1 = 0 ∧ Flow { s with M := (vDeliver b n f 65536 s.M s.pi).2.1, pi := (vDeliver b n f 65536 s.M s.pi).2.2 } b n (Wi ++ [f]) Wo := by
  obtain ⟨r, u, G, h1, h2⟩ := h
  obtain ⟨M', pi', e, k1, k2, k3, k4⟩ := in_deliver h1 h14 h1514 hw
  have hlen := h2.len
  rw [e]
  exact ⟨rfl, r, u, G, k1, h2.same k2 k3 (k4.sub (Nat.le_refl _) hlen)⟩
theorem flow_full {s : VnSt} {b n : Nat} {Wi Wo : List (List UInt8)} {f : List UInt8} (h : Flow s b n Wi Wo) (hw : Wi.length = n) :
    (vDeliver b n f 65536 s.M s.pi).1 = 7 ∧ Flow { s with M := (vDeliver b n f 65536 s.M s.pi).2.1, pi := (vDeliver b n f 65536 s.M s.pi).2.2 } b n Wi Wo := by
  obtain ⟨r, u, G, h1, h2⟩ := h
  rw [in_full h1 hw]
  exact ⟨rfl, r, u, G, h1, h2⟩
theorem flow_receive {s : VnSt} {b n : Nat} {Wi Wo : List (List UInt8)} (h : Flow s b n Wi Wo) :
    (vReceive b n 65536 s.M s.ci []).1 = Wi ∧ Flow { s with M := (vReceive b n 65536 s.M s.ci []).2.1, ci := (vReceive b n 65536 s.M s.ci []).2.2 } b n [] Wo := by
  obtain ⟨r, u, G, h1, h2⟩ := h
  obtain ⟨M', ci', e, k1, k2, k3⟩ := in_receive h1
  have hlen := h2.len
  rw [e]
  exact ⟨rfl, _, u, G, k1, h2.same k2 (k3.sub (Nat.le_refl _) (by omega)) (k3.sub (by omega) (by omega))⟩
theorem flow_send {s : VnSt} {b n : Nat} {Wi Wo : List (List UInt8)} {f : List UInt8} (h : Flow s b n Wi Wo) (h14 : 14 ≤ f.length) (h1514 : f.length ≤ 1514) (hw : Wo.length < n) :
    (vSend b n s f).1 = 0 ∧ Flow (vSend b n s f).2 b n Wi (Wo ++ [f]) := by
  obtain ⟨r, u, G, h1, h2⟩ := h
  obtain ⟨s', e, k1, k2, k3, k4, k5, k6⟩ := out_send h2 h14 h1514 hw
  rw [e]
  refine ⟨rfl, r, _, 0, ?_, k1⟩
  show InFlow s'.M b n r s'.ci s'.pi Wi
  rw [k2, k3]
  exact h1.same k4 k5 k6
theorem flow_sfull {s : VnSt} {b n : Nat} {Wi Wo : List (List UInt8)} {f : List UInt8} (h : Flow s b n Wi Wo) (h14 : 14 ≤ f.length) (h1514 : f.length ≤ 1514) (hw : Wo.length = n) :
    (vSend b n s f).1 = 7 ∧ Flow (vSend b n s f).2 b n Wi Wo := by
  obtain ⟨r, u, G, h1, h2⟩ := h
  obtain ⟨co, e, k1⟩ := out_full h2 h14 h1514 hw
  rw [e]
  exact ⟨rfl, r, _, 0, h1, k1⟩
theorem flow_sent {s : VnSt} {b n : Nat} {Wi Wo : List (List UInt8)} (h : Flow s b n Wi Wo) :
    (vSent (b + vSize n) n 65536 s.M s.po []).1 = Wo ∧ Flow { s with M := (vSent (b + vSize n) n 65536 s.M s.po []).2.1, po := (vSent (b + vSize n) n 65536 s.M s.po []).2.2 } b n Wi [] := by
  obtain ⟨r, u, G, h1, h2⟩ := h
  obtain ⟨M', po', u', G', e, k1, k2, k3, k4⟩ := out_sent h2
  have hlen := h1.len
  rw [e]
  exact ⟨rfl, r, u', G', h1.same k2 k3 (k4.sub (Nat.le_refl _) (by omega)), k1⟩

/-! ### from the beginning -/
theorem leVal_zeros (l : List UInt8) (h : ∀ x ∈ l, x = 0) : leVal l = 0 := by
  induction l with
  | nil => rfl
  | cons x l ih =>
    rw [leVal_cons, ih (fun y hy => h y (List.mem_cons_of_mem _ hy)), h x (List.mem_cons_self ..)]
    rfl
theorem leAt_zeros {M : List UInt8} {p m q k : Nat} (h : p + m ≤ M.length) (h1 : p ≤ q) (h2 : q + k ≤ p + m) : leAt (patch M p (zeros m)) q k = 0 := by
  unfold leAt
  rw [piece_patch (by rw [zeros_len]; exact h) h1 (by rw [zeros_len]; exact h2)]
  refine leVal_zeros _ (fun x hx => ?_)
  have := List.mem_of_mem_drop (List.mem_of_mem_take hx)
  unfold zeros at this
  exact List.eq_of_mem_replicate this
theorem okN_dvd {n : Nat} (h : okN (n : Int) = true) : n ∣ 65536 := by
  rcases okN_iff.1 h with h | h | h | h | h | h | h | h | h
  all_goals
    obtain rfl : n = _ := by exact_mod_cast h
    decide
theorem offers_go {b n : Nat} {M0 : List UInt8} (hn : 1 ≤ n) (hn2 : n ≤ 256) (hb : b + 2 * vSize n + 2 * n * 1528 ≤ M0.length) (hbig : M0.length ≤ 1000000) (h0 : leAt M0 (b + (16 * n + 2)) 2 = 0) : ∀ k, k ≤ n →
    (vOffers b n (M0, vq0 n) k).1.length = M0.length ∧ (∀ lo hi, hi ≤ b ∨ b + (18 * n + 4) ≤ lo → Same M0 (vOffers b n (M0, vq0 n) k).1 lo hi) ∧ (vOffers b n (M0, vq0 n) k).2.put = k ∧ (vOffers b n (M0, vq0 n) k).2.got = 0 ∧ (vOffers b n (M0, vq0 n) k).2.busy.length = n ∧
    leAt (vOffers b n (M0, vq0 n) k).1 (b + (16 * n + 2)) 2 = k ∧ (∀ j, j < k → leAt (vOffers b n (M0, vq0 n) k).1 (b + (16 * n + 4 + 2 * j)) 2 = j) ∧
    ∀ j, j < k → leAt (vOffers b n (M0, vq0 n) k).1 (b + 16 * j) 8 = vPlace b n j ∧ leAt (vOffers b n (M0, vq0 n) k).1 (b + (16 * j + 8)) 4 = 1526 ∧ leAt (vOffers b n (M0, vq0 n) k).1 (b + (16 * j + 12)) 2 = 2 := by
  have hS : vSize n = 8 + 26 * n := rfl
  intro k
  induction k with
  | zero => intro _; exact ⟨rfl, fun _ _ _ => Same.refl _ _ _, rfl, rfl, List.length_replicate, h0, fun j hj => by omega, fun j hj => by omega⟩
  | succ k ih =>
    intro hk
    obtain ⟨i1, i2, i3, i4, i5, i6, i7, i8⟩ := ih (by omega)
    rw [vOffers]
    generalize vOffers b n (M0, vq0 n) k = S at *
    obtain ⟨M, q⟩ := S
    simp only at i1 i2 i3 i4 i5 i6 i7 i8 ⊢
    have hp : vPlace b n k = b + 2 * vSize n + k * 1528 := rfl
    obtain ⟨a1, a2, a3, a4, a5, a6⟩ := addM_parts (M := M) (b := b) (n := n) (put := q.put) (i := k) (addr := vPlace b n k) (len := 1526) (fl := 2) (by omega) (by omega) (by omega) hn2 (by omega) (by decide) (by decide)
    rw [i3, Nat.mod_eq_of_lt (show k < n by omega)] at a4
    rw [i3] at a1 a2 a3 a5 a6 ⊢
    generalize vAddM M b n k k (vPlace b n k) 1526 2 = M' at *
    refine ⟨by omega, fun lo hi hh => (i2 lo hi hh).trans (a2 lo hi hh), ?_, i4, ?_, by rw [a3]; omega, fun j hj => ?_, fun j hj => ?_⟩
    · show (q.put + 1) % 65536 = _
      rw [i3]; omega
    · show (q.busy.set k true).length = n
      rw [List.length_set, i5]
    · rw [a4 j (by omega)]
      by_cases e : j = k
      · rw [if_pos e, e]
      · rw [if_neg e]
        exact i7 j (by omega)
    · by_cases e : j = k
      · subst e
        exact a5
      · obtain ⟨c1, c2, c3⟩ := a6 j (by omega) e
        rw [c1, c2, c3]
        exact i8 j (by omega)
/-- a card and a port that were just made -/
def vStart (M : List UInt8) (b n : Nat) : VnSt := ⟨(vOffers b n (vNewM M b n, vq0 n) n).1, (vOffers b n (vNewM M b n, vq0 n) n).2, vq0 n, ⟨0, 0⟩, ⟨0, 0⟩⟩
theorem flow_start {M : List UInt8} {b n : Nat} (hok : okN (n : Int) = true) (hb : b + 2 * vSize n + 2 * n * 1528 ≤ M.length) (hbig : M.length ≤ 1000000) : Flow (vStart M b n) b n [] [] := by
  have hS : vSize n = 8 + 26 * n := rfl
  have hn := okN_le hok
  have hn1 : 1 ≤ n := by omega
  have hn2 : n ≤ 256 := by omega
  have hz1 : (patch M b (zeros (vSize n))).length = M.length := patch_len (by rw [zeros_len]; omega)
  have hz2 : (vNewM M b n).length = M.length := by unfold vNewM; rw [patch_len (by rw [zeros_len, hz1]; omega), hz1]
  have z1 : ∀ q k, b ≤ q → q + k ≤ b + vSize n → leAt (vNewM M b n) q k = 0 := fun q k c1 c2 => by
    unfold vNewM
    rw [(same_patch (M := patch M b (zeros (vSize n))) (b := zeros (vSize n)) (p := b + vSize n) (lo := b) (hi := b + vSize n) (by rw [zeros_len, hz1]; omega) (.inl (Nat.le_refl _))).le c1 c2]
    exact leAt_zeros (by omega) c1 c2
  have z2 : ∀ q k, b + vSize n ≤ q → q + k ≤ b + vSize n + vSize n → leAt (vNewM M b n) q k = 0 := fun q k c1 c2 => by
    unfold vNewM
    exact leAt_zeros (by rw [hz1]; omega) c1 c2
  obtain ⟨i1, i2, i3, i4, i5, i6, i7, i8⟩ := offers_go (b := b) (n := n) (M0 := vNewM M b n) hn1 hn2 (by omega) (by omega) (z1 _ _ (by omega) (by omega)) n (Nat.le_refl n)
  have hbz := vOffers_busy b n (vNewM M b n) n (Nat.le_refl n)
  unfold vStart
  generalize vOffers b n (vNewM M b n, vq0 n) n = S at *
  obtain ⟨Mx, q⟩ := S
  simp only at i1 i2 i3 i4 i5 i6 i7 i8 hbz ⊢
  refine ⟨0, 0, 0, ⟨hn1, hn2, okN_dvd hok, by show Mx.length ≤ _; omega, by show _ ≤ Mx.length; omega, by rw [i4], by rw [i3]; omega, i5, fun j hj => by rw [hbz j, if_pos hj], rfl, rfl, by show leAt Mx _ _ = _; rw [i6]; omega, ?_, i7, i8, fun k f hk => by simp at hk, Nat.zero_le _⟩,
    ⟨hn1, hn2, okN_dvd hok, by show Mx.length ≤ _; omega, by show _ ≤ Mx.length; omega, rfl, rfl, List.length_replicate, fun j hj => ?_, rfl, rfl, ?_, ?_, fun k hk => by omega, fun k f hk => by simp at hk, .inl rfl, Nat.zero_le _, Nat.zero_le _⟩⟩
  · show leAt Mx _ _ = _
    rw [(i2 (b + (18 * n + 4)) Mx.length (.inr (Nat.le_refl _))).le (by omega) (by omega), z1 _ _ (by omega) (by omega)]
    rfl
  · show (List.replicate n false)[j]? = _
    rw [List.getElem?_replicate, if_pos hj]
    rfl
  · show leAt Mx _ _ = _
    rw [(i2 (b + (18 * n + 4)) Mx.length (.inr (Nat.le_refl _))).le (by omega) (by omega), z2 _ _ (by omega) (by omega)]
    rfl
  · show leAt Mx _ _ = _
    rw [(i2 (b + (18 * n + 4)) Mx.length (.inr (Nat.le_refl _))).le (by omega) (by omega), z2 _ _ (by omega) (by omega)]
end Go.Proofs.Ytgiegiobigdplaa
