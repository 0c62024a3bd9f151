/- Helpers of the statements about the network's card: within, sameRows. -/
import Derived.Test.YtgiegiobigdplaaVnX
namespace Go.Proofs.Ytgiegiobigdplaa
section
set_option linter.unusedVariables false
set_option maxRecDepth 10000

def Flow (s : VnSt) (b n : Nat) (Wi Wo : List (List UInt8)) : Prop := ∃ r u G, InFlow s.M b n r s.ci s.pi Wi ∧ OutFlow s.M b n u G s.co s.po Wo
theorem Flow.len {s : VnSt} {b n : Nat} {Wi Wo : List (List UInt8)} (h : Flow s b n Wi Wo) : Wi.length ≤ n ∧ Wo.length ≤ n := by
  obtain ⟨r, u, G, h1, h2⟩ := h
  exact ⟨h1.wn, h2.wn⟩
theorem flow_deliver {s : VnSt} {b n : Nat} {Wi Wo : List (List UInt8)} {f : List UInt8} (h : Flow s b n Wi Wo) (h14 : 14 ≤ f.length) (h1514 : f.length ≤ 1514) (hw : Wi.length < n) :
    (vDeliver b n f 65536 s.M s.pi).1 = 0 ∧ Flow { s with M := (vDeliver b n f 65536 s.M s.pi).2.1, pi := (vDeliver b n f 65536 s.M s.pi).2.2 } b n (Wi ++ [f]) Wo := by
  obtain ⟨r, u, G, h1, h2⟩ := h
  obtain ⟨M', pi', e, k1, k2, k3, k4⟩ := in_deliver h1 h14 h1514 hw
  have hlen := h2.len
  rw [e]
  exact ⟨rfl, r, u, G, k1, h2.same k2 k3 (k4.sub (Nat.le_refl _) hlen)⟩
theorem flow_full {s : VnSt} {b n : Nat} {Wi Wo : List (List UInt8)} {f : List UInt8} (h : Flow s b n Wi Wo) (hw : Wi.length = n) :
    (vDeliver b n f 65536 s.M s.pi).1 = 7 ∧ Flow { s with M := (vDeliver b n f 65536 s.M s.pi).2.1, pi := (vDeliver b n f 65536 s.M s.pi).2.2 } b n Wi Wo := by
  obtain ⟨r, u, G, h1, h2⟩ := h
  rw [in_full h1 hw]
  exact ⟨rfl, r, u, G, h1, h2⟩
theorem flow_receive {s : VnSt} {b n : Nat} {Wi Wo : List (List UInt8)} (h : Flow s b n Wi Wo) :
    (vReceive b n 65536 s.M s.ci []).1 = Wi ∧ Flow { s with M := (vReceive b n 65536 s.M s.ci []).2.1, ci := (vReceive b n 65536 s.M s.ci []).2.2 } b n [] Wo := by
  obtain ⟨r, u, G, h1, h2⟩ := h
  obtain ⟨M', ci', e, k1, k2, k3⟩ := in_receive h1
  have hlen := h2.len
  rw [e]
  exact ⟨rfl, _, u, G, k1, h2.same k2 (k3.sub (Nat.le_refl _) (by omega)) (k3.sub (by omega) (by omega))⟩
theorem flow_send {s : VnSt} {b n : Nat} {Wi Wo : List (List UInt8)} {f : List UInt8} (h : Flow s b n Wi Wo) (h14 : 14 ≤ f.length) (h1514 : f.length ≤ 1514) (hw : Wo.length < n) :
    (vSend b n s f).1 = 0 ∧ Flow (vSend b n s f).2 b n Wi (Wo ++ [f]) := by
  obtain ⟨r, u, G, h1, h2⟩ := h
  obtain ⟨s', e, k1, k2, k3, k4, k5, k6⟩ := out_send h2 h14 h1514 hw
  rw [e]
  refine ⟨rfl, r, _, 0, ?_, k1⟩
  show InFlow s'.M b n r s'.ci s'.pi Wi
  rw [k2, k3]
  exact h1.same k4 k5 k6
theorem flow_sfull {s : VnSt} {b n : Nat} {Wi Wo : List (List UInt8)} {f : List UInt8} (h : Flow s b n Wi Wo) (h14 : 14 ≤ f.length) (h1514 : f.length ≤ 1514) (hw : Wo.length = n) :
    (vSend b n s f).1 = 7 ∧ Flow (vSend b n s f).2 b n Wi Wo := by
  obtain ⟨r, u, G, h1, h2⟩ := h
  obtain ⟨co, e, k1⟩ := out_full h2 h14 h1514 hw
  rw [e]
  exact ⟨rfl, r, _, 0, h1, k1⟩
theorem flow_sent {s : VnSt} {b n : Nat} {Wi Wo : List (List UInt8)} (h : Flow s b n Wi Wo) :
    (vSent (b + vSize n) n 65536 s.M s.po []).1 = Wo ∧ Flow { s with M := (vSent (b + vSize n) n 65536 s.M s.po []).2.1, po := (vSent (b + vSize n) n 65536 s.M s.po []).2.2 } b n Wi [] := by
  obtain ⟨r, u, G, h1, h2⟩ := h
  obtain ⟨M', po', u', G', e, k1, k2, k3, k4⟩ := out_sent h2
  have hlen := h1.len
  rw [e]
  exact ⟨rfl, r, u', G', h1.same k2 k3 (k4.sub (Nat.le_refl _) (by omega)), k1⟩

/-! ### from the beginning -/
theorem leVal_zeros (l : List UInt8) (h : ∀ x ∈ l, x = 0) : leVal l = 0 := by
  induction l with
  | nil => rfl
  | cons x l ih =>
    rw [leVal_cons, ih (fun y hy => h y (List.mem_cons_of_mem _ hy)), h x (List.mem_cons_self ..)]
    rfl
theorem leAt_zeros {M : List UInt8} {p m q k : Nat} (h : p + m ≤ M.length) (h1 : p ≤ q) (h2 : q + k ≤ p + m) : leAt (patch M p (zeros m)) q k = 0 := by
  unfold leAt
  rw [piece_patch (by rw [zeros_len]; exact h) h1 (by rw [zeros_len]; exact h2)]
  refine leVal_zeros _ (fun x hx => ?_)
  have := List.mem_of_mem_drop (List.mem_of_mem_take hx)
  unfold zeros at this
  exact List.eq_of_mem_replicate this
theorem okN_dvd {n : Nat} (h : okN (n : Int) = true) : n ∣ 65536 := by
  rcases okN_iff.1 h with h | h | h | h | h | h | h | h | h
  all_goals
    obtain rfl : n = _ := by exact_mod_cast h
    decide
theorem offers_go {b n : Nat} {M0 : List UInt8} (hn : 1 ≤ n) (hn2 : n ≤ 256) (hb : b + 2 * vSize n + 2 * n * 1528 ≤ M0.length) (hbig : M0.length ≤ 1000000) (h0 : leAt M0 (b + (16 * n + 2)) 2 = 0) : ∀ k, k ≤ n →
    (vOffers b n (M0, vq0 n) k).1.length = M0.length ∧ (∀ lo hi, hi ≤ b ∨ b + (18 * n + 4) ≤ lo → Same M0 (vOffers b n (M0, vq0 n) k).1 lo hi) ∧ (vOffers b n (M0, vq0 n) k).2.put = k ∧ (vOffers b n (M0, vq0 n) k).2.got = 0 ∧ (vOffers b n (M0, vq0 n) k).2.busy.length = n ∧
    leAt (vOffers b n (M0, vq0 n) k).1 (b + (16 * n + 2)) 2 = k ∧ (∀ j, j < k → leAt (vOffers b n (M0, vq0 n) k).1 (b + (16 * n + 4 + 2 * j)) 2 = j) ∧
    ∀ j, j < k → leAt (vOffers b n (M0, vq0 n) k).1 (b + 16 * j) 8 = vPlace b n j ∧ leAt (vOffers b n (M0, vq0 n) k).1 (b + (16 * j + 8)) 4 = 1526 ∧ leAt (vOffers b n (M0, vq0 n) k).1 (b + (16 * j + 12)) 2 = 2 := by
  have hS : vSize n = 8 + 26 * n := rfl
  intro k
  induction k with
  | zero => intro _; exact ⟨rfl, fun _ _ _ => Same.refl _ _ _, rfl, rfl, List.length_replicate, h0, fun j hj => by omega, fun j hj => by omega⟩
  | succ k ih =>
    intro hk
    obtain ⟨i1, i2, i3, i4, i5, i6, i7, i8⟩ := ih (by omega)
    rw [vOffers]
    generalize vOffers b n (M0, vq0 n) k = S at *
    obtain ⟨M, q⟩ := S
    simp only at i1 i2 i3 i4 i5 i6 i7 i8 ⊢
    have hp : vPlace b n k = b + 2 * vSize n + k * 1528 := rfl
    obtain ⟨a1, a2, a3, a4, a5, a6⟩ := addM_parts (M := M) (b := b) (n := n) (put := q.put) (i := k) (addr := vPlace b n k) (len := 1526) (fl := 2) (by omega) (by omega) (by omega) hn2 (by omega) (by decide) (by decide)
    rw [i3, Nat.mod_eq_of_lt (show k < n by omega)] at a4
    rw [i3] at a1 a2 a3 a5 a6 ⊢
    generalize vAddM M b n k k (vPlace b n k) 1526 2 = M' at *
    refine ⟨by omega, fun lo hi hh => (i2 lo hi hh).trans (a2 lo hi hh), ?_, i4, ?_, by rw [a3]; omega, fun j hj => ?_, fun j hj => ?_⟩
    · show (q.put + 1) % 65536 = _
      rw [i3]; omega
    · show (q.busy.set k true).length = n
      rw [List.length_set, i5]
    · rw [a4 j (by omega)]
      by_cases e : j = k
      · rw [if_pos e, e]
      · rw [if_neg e]
        exact i7 j (by omega)
    · by_cases e : j = k
      · subst e
        exact a5
      · obtain ⟨c1, c2, c3⟩ := a6 j (by omega) e
        rw [c1, c2, c3]
        exact i8 j (by omega)
/-- a card and a port that were just made -/
def vStart (M : List UInt8) (b n : Nat) : VnSt := ⟨(vOffers b n (vNewM M b n, vq0 n) n).1, (vOffers b n (vNewM M b n, vq0 n) n).2, vq0 n, ⟨0, 0⟩, ⟨0, 0⟩⟩
theorem flow_start {M : List UInt8} {b n : Nat} (hok : okN (n : Int) = true) (hb : b + 2 * vSize n + 2 * n * 1528 ≤ M.length) (hbig : M.length ≤ 1000000) : Flow (vStart M b n) b n [] [] := by
  have hS : vSize n = 8 + 26 * n := rfl
  have hn := okN_le hok
  have hn1 : 1 ≤ n := by omega
  have hn2 : n ≤ 256 := by omega
  have hz1 : (patch M b (zeros (vSize n))).length = M.length := patch_len (by rw [zeros_len]; omega)
  have hz2 : (vNewM M b n).length = M.length := by unfold vNewM; rw [patch_len (by rw [zeros_len, hz1]; omega), hz1]
  have z1 : ∀ q k, b ≤ q → q + k ≤ b + vSize n → leAt (vNewM M b n) q k = 0 := fun q k c1 c2 => by
    unfold vNewM
    rw [(same_patch (M := patch M b (zeros (vSize n))) (b := zeros (vSize n)) (p := b + vSize n) (lo := b) (hi := b + vSize n) (by rw [zeros_len, hz1]; omega) (.inl (Nat.le_refl _))).le c1 c2]
    exact leAt_zeros (by omega) c1 c2
  have z2 : ∀ q k, b + vSize n ≤ q → q + k ≤ b + vSize n + vSize n → leAt (vNewM M b n) q k = 0 := fun q k c1 c2 => by
    unfold vNewM
    exact leAt_zeros (by rw [hz1]; omega) c1 c2
  obtain ⟨i1, i2, i3, i4, i5, i6, i7, i8⟩ := offers_go (b := b) (n := n) (M0 := vNewM M b n) hn1 hn2 (by omega) (by omega) (z1 _ _ (by omega) (by omega)) n (Nat.le_refl n)
  have hbz := vOffers_busy b n (vNewM M b n) n (Nat.le_refl n)
  unfold vStart
  generalize vOffers b n (vNewM M b n, vq0 n) n = S at *
  obtain ⟨Mx, q⟩ := S
  simp only at i1 i2 i3 i4 i5 i6 i7 i8 hbz ⊢
  refine ⟨0, 0, 0, ⟨hn1, hn2, okN_dvd hok, by show Mx.length ≤ _; omega, by show _ ≤ Mx.length; omega, by rw [i4], by rw [i3]; omega, i5, fun j hj => by rw [hbz j, if_pos hj], rfl, rfl, by show leAt Mx _ _ = _; rw [i6]; omega, ?_, i7, i8, fun k f hk => by simp at hk, Nat.zero_le _⟩,
    ⟨hn1, hn2, okN_dvd hok, by show Mx.length ≤ _; omega, by show _ ≤ Mx.length; omega, rfl, rfl, List.length_replicate, fun j hj => ?_, rfl, rfl, ?_, ?_, fun k hk => by omega, fun k f hk => by simp at hk, .inl rfl, Nat.zero_le _, Nat.zero_le _⟩⟩
  · show leAt Mx _ _ = _
    rw [(i2 (b + (18 * n + 4)) Mx.length (.inr (Nat.le_refl _))).le (by omega) (by omega), z1 _ _ (by omega) (by omega)]
    rfl
  · show (List.replicate n false)[j]? = _
    rw [List.getElem?_replicate, if_pos hj]
    rfl
  · show leAt Mx _ _ = _
    rw [(i2 (b + (18 * n + 4)) Mx.length (.inr (Nat.le_refl _))).le (by omega) (by omega), z2 _ _ (by omega) (by omega)]
    rfl
  · show leAt Mx _ _ = _
    rw [(i2 (b + (18 * n + 4)) Mx.length (.inr (Nat.le_refl _))).le (by omega) (by omega), z2 _ _ (by omega) (by omega)]
end
section
open Go Go.RowKit
attribute [local go_sem ↓] Go.wp_at_zero Go.wp_at_succ
set_option maxRecDepth 100000
set_option linter.unusedSimpArgs false
set_option linter.unusedVariables false

theorem within_any (at_ : Int) (n : Nat) (w : World) (hn : 0 < n) (hn2 : n ≤ 1099511627776) :
    Calls Try.prog 23 #[.int .i64 at_, .int .i64 n] w fun e w' => ∃ k : Nat, k < n ∧ e = .returned (.int .i64 k) ∧ w = w' := by
  have hb : (at_.tmod (n : Int)).natAbs < n := by rw [Int.natAbs_tmod]; exact Nat.mod_lt _ (by omega)
  have hne : (n : Int) ≠ 0 := by omega
  go_enter Try.func23, Try.ntmps23
  by_cases hneg : at_.tmod (n : Int) < 0
  · have hw : IntKind.i64.wrap (at_.tmod (n : Int)) = at_.tmod (n : Int) := IntWalk.i64_in _ (by omega)
    go_wp2_with fail
    go_ret
    exact ⟨(at_.tmod (n : Int) + n).toNat, by omega, ret_int (by omega), rfl⟩
  · have hw : IntKind.i64.wrap (at_.tmod (n : Int)) = at_.tmod (n : Int) := IntWalk.i64_in _ (by omega)
    go_wp2_with fail
    go_ret
    exact ⟨(at_.tmod (n : Int)).toNat, by omega, ret_int (by omega), rfl⟩
theorem within_at (at_ nI : Int) (n : Nat) (w : World) (h : nI = n) (hn : 0 < n) (hn2 : n ≤ 1099511627776) :
    Calls Try.prog 23 #[.int .i64 at_, .int .i64 nI] w fun e w' => ∃ k : Nat, k < n ∧ e = .returned (.int .i64 k) ∧ w = w' := by
  subst h
  exact within_any at_ n w hn hn2
theorem RowsN.rows8 {w : World} {base : Nat} {N : Nat → Prop} {v : Value} {L : List (List UInt8)} (h : RowsN w base N v L) : Rows8 w v L := by
  obtain ⟨vs, ho, _, hi⟩ := h
  exact ⟨vs, RowN.of_own ho, fun i x r hx hr => (hi i x r hx hr).1.bs⟩
theorem rows_same_any (v1 v2 : Value) (L1 L2 : List (List UInt8)) (w : World) (h1 : Rows8 w v1 L1) (h2 : Rows8 w v2 L2) (hl1 : L1.length ≤ 1000000) (hl2 : L2.length ≤ 1000000) :
    Calls Try.prog 16 #[v1, v2] w fun e w' => e = .returned (.bool (decide (L1 = L2))) ∧ ∃ q, w' = w.drewN q := by
  obtain ⟨A1, c1, rfl, _, _, f1⟩ := h1.cells
  obtain ⟨A2, c2, rfl, _, _, f2⟩ := h2.cells
  obtain ⟨X, hX⟩ : ∃ X, decide (L1 = L2) = X := ⟨_, rfl⟩
  rw [hX]
  have HX := hid hX
  obtain ⟨k, hk⟩ : ∃ k, L1.length = k := ⟨_, rfl⟩
  obtain ⟨k2, hk2⟩ : ∃ k, L2.length = k := ⟨_, rfl⟩
  have Hk := hid hk
  have Hk2 := hid hk2
  have Hf1 := hid f1
  have Hf2 := hid f2
  rw [hk] at hl1 ⊢
  rw [hk2] at hl2 ⊢
  clear h1 h2 f1 f2 hX hk hk2
  by_cases hkk : k = k2
  · subst hkk
    have hne : ((k : Int) != (k : Int)) = false := by simp
    go_enter Try.func16, Try.ntmps16
    go_wp2_with fail
    go_loopg [5] k (fun gk s5 wx => ∃ i q : Nat, i + gk = k ∧ s5 = .int .i64 (i : Int) ∧ L1.take i = L2.take i ∧ wx = w.drewN q)
    case atStart => exact ⟨0, 0, by omega, rfl, rfl, rfl⟩
    case round =>
      obtain ⟨i, q, hi, rfl, he, rfl⟩ := hrel
      have He := hid he
      by_cases hlt : i < k
      · have hltI : (i : Int) < (k : Int) := by omega
        obtain ⟨b1, o1, x1, rfl, hc1, hb1⟩ := Hf1.out i (by rw [Hk.out]; exact hlt)
        obtain ⟨b2, o2, x2, rfl, hc2, hb2⟩ := Hf2.out i (by rw [Hk2.out]; exact hlt)
        obtain ⟨r1, hr1⟩ : ∃ r, L1[i]'(by rw [Hk.out]; exact hlt) = r := ⟨_, rfl⟩
        obtain ⟨r2, hr2⟩ : ∃ r, L2[i]'(by rw [Hk2.out]; exact hlt) = r := ⟨_, rfl⟩
        rw [hr1] at hb1
        rw [hr2] at hb2
        obtain ⟨B1, d1, rfl⟩ := slice_len hb1 rfl
        obtain ⟨B2, d2, rfl⟩ := slice_len hb2 rfl
        have t1 := run_str Try.underlying25 Try.underlying5 Try.underlying9 (hb1.drewN q).drew
        have t2 := run_str Try.underlying25 Try.underlying5 Try.underlying9 (hb2.drewN q).drew
        have c1 : (w.drewN q).drew.cell? ⟨b1, o1 + i, none⟩ = some (.slice B1 r1.length d1) := hc1
        have c2 : (w.drewN q).drew.cell? ⟨b2, o2 + i, none⟩ = some (.slice B2 r2.length d2) := hc2
        have Hs := hid (And.intro c1 (And.intro c2 (And.intro t1 t2)))
        have Hr := hid (And.intro hr1 hr2)
        obtain ⟨e1, he1⟩ : ∃ e, r1.length = e := ⟨_, rfl⟩
        obtain ⟨e2, he2⟩ : ∃ e, r2.length = e := ⟨_, rfl⟩
        rw [he1, he2] at Hs
        have Hms := hid (show k - (i + 1) < gk ∧ i + 1 + (k - (i + 1)) = k by omega)
        clear hb1 hb2 hc1 hc2 t1 t2 c1 c2 hr1 hr2 he1 he2 he
        by_cases hrr : r1 = r2
        · subst hrr
          go_upto_region 6 with fail
          go_region_held3 (fun wy => wy.cell? ⟨b1, o1 + i, none⟩ = some (.slice B1 e1 d1) ∧ wy.cell? ⟨b2, o2 + i, none⟩ = some (.slice B2 e2 d2) ∧ Sem.run Try.prog (convert 25 9 (.slice B1 e1 d1)) wy = .ok (.string (mkStr r1)) wy ∧ Sem.run Try.prog (convert 25 9 (.slice B2 e2 d2)) wy = .ok (.string (mkStr r1)) wy) (exact Hs.out) (fail)
          all_goals
            go_wp2_with fail
            go_roundg (k - (i + 1))
            case measure => exact Hms.out.1
            case rel =>
              refine ⟨i + 1, q + 1, Hms.out.2, by go_num, ?_, rfl⟩
              rw [List.take_succ_eq_append_getElem (by rw [Hk.out]; exact hlt), List.take_succ_eq_append_getElem (by rw [Hk2.out]; exact hlt), He.out, Hr.out.1, Hr.out.2]
        · have hss : ((mkStr r1).toList == (mkStr r2).toList) = false := by rw [mkStr_toList, mkStr_toList]; exact beq_eq_false_iff_ne.2 hrr
          have hx : X = false := by
            rw [← HX.out]
            refine decide_eq_false (fun e => hrr ?_)
            subst e
            rw [← Hr.out.1, ← Hr.out.2]
          subst hx
          clear hrr
          go_upto_region 6 with fail
          go_region_held3 (fun wy => wy.cell? ⟨b1, o1 + i, none⟩ = some (.slice B1 e1 d1) ∧ wy.cell? ⟨b2, o2 + i, none⟩ = some (.slice B2 e2 d2) ∧ Sem.run Try.prog (convert 25 9 (.slice B1 e1 d1)) wy = .ok (.string (mkStr r1)) wy ∧ Sem.run Try.prog (convert 25 9 (.slice B2 e2 d2)) wy = .ok (.string (mkStr r2)) wy) (exact Hs.out) (fail)
          all_goals
            go_wp2_with fail
            go_ret
            exact ⟨rfl, q + 1, rfl⟩
      · obtain rfl : i = k := by omega
        have hltI : ¬ (i : Int) < (i : Int) := by omega
        have hx : X = true := by
          rw [← HX.out]
          refine decide_eq_true ?_
          rw [List.take_of_length_le (by rw [Hk.out]; exact Nat.le_refl _), List.take_of_length_le (by rw [Hk2.out]; exact Nat.le_refl _)] at he
          exact he
        subst hx
        clear he
        go_wp2_with fail
        go_ret
        exact ⟨rfl, q, rfl⟩
  · have hne : ((k : Int) != (k2 : Int)) = true := by simp; omega
    have hneI : ¬ (k : Int) = (k2 : Int) := by omega
    have hx : X = false := by
      rw [← HX.out]
      refine decide_eq_false (fun e => hkk ?_)
      rw [← Hk.out, ← Hk2.out, e]
    subst hx
    go_enter Try.func16, Try.ntmps16
    go_wp2_with fail
    go_ret
    exact ⟨rfl, 0, rfl⟩
end
end Go.Proofs.Ytgiegiobigdplaa
