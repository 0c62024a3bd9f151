/- Helpers of the statements about the network's card: within, sameRows. -/
import Derived.Test.YtgiegiobigdplaaVnY
namespace Go.Proofs.Ytgiegiobigdplaa
open Go Go.RowKit
attribute [local go_sem ↓] Go.wp_at_zero Go.wp_at_succ
set_option maxRecDepth 100000
set_option linter.unusedSimpArgs false
set_option linter.unusedVariables false

theorem within_any (at_ : Int) (n : Nat) (w : World) (hn : 0 < n) (hn2 : n ≤ 1099511627776) :
    Calls Try.prog 23 #[.int .i64 at_, .int .i64 n] w fun e w' => ∃ k : Nat, k < n ∧ e = .returned (.int .i64 k) ∧ w = w' := by
  have hb : (at_.tmod (n : Int)).natAbs < n := by rw [Int.natAbs_tmod]; exact Nat.mod_lt _ (by omega)
  have hne : (n : Int) ≠ 0 := by omega
  go_enter Try.func23, Try.ntmps23
  by_cases hneg : at_.tmod (n : Int) < 0
  · have hw : IntKind.i64.wrap (at_.tmod (n : Int)) = at_.tmod (n : Int) := IntWalk.i64_in _ (by omega)
    go_wp2_with fail
    go_ret
    exact ⟨(at_.tmod (n : Int) + n).toNat, by omega, ret_int (by omega), rfl⟩
  · have hw : IntKind.i64.wrap (at_.tmod (n : Int)) = at_.tmod (n : Int) := IntWalk.i64_in _ (by omega)
    go_wp2_with fail
    go_ret
    exact ⟨(at_.tmod (n : Int)).toNat, by omega, ret_int (by omega), rfl⟩
theorem within_at (at_ nI : Int) (n : Nat) (w : World) (h : nI = n) (hn : 0 < n) (hn2 : n ≤ 1099511627776) :
    Calls Try.prog 23 #[.int .i64 at_, .int .i64 nI] w fun e w' => ∃ k : Nat, k < n ∧ e = .returned (.int .i64 k) ∧ w = w' := by
  subst h
  exact within_any at_ n w hn hn2
theorem RowsN.rows8 {w : World} {base : Nat} {N : Nat → Prop} {v : Value} {L : List (List UInt8)} (h : RowsN w base N v L) : Rows8 w v L := by
  obtain ⟨vs, ho, _, hi⟩ := h
  exact ⟨vs, RowN.of_own ho, fun i x r hx hr => (hi i x r hx hr).1.bs⟩
theorem rows_same_any (v1 v2 : Value) (L1 L2 : List (List UInt8)) (w : World) (h1 : Rows8 w v1 L1) (h2 : Rows8 w v2 L2) (hl1 : L1.length ≤ 1000000) (hl2 : L2.length ≤ 1000000) :
    Calls Try.prog 16 #[v1, v2] w fun e w' => e = .returned (.bool (decide (L1 = L2))) ∧ ∃ q, w' = w.drewN q := by
  obtain ⟨A1, c1, rfl, _, _, f1⟩ := h1.cells
  obtain ⟨A2, c2, rfl, _, _, f2⟩ := h2.cells
  obtain ⟨X, hX⟩ : ∃ X, decide (L1 = L2) = X := ⟨_, rfl⟩
  rw [hX]
  have HX := hid hX
  obtain ⟨k, hk⟩ : ∃ k, L1.length = k := ⟨_, rfl⟩
  obtain ⟨k2, hk2⟩ : ∃ k, L2.length = k := ⟨_, rfl⟩
  have Hk := hid hk
  have Hk2 := hid hk2
  have Hf1 := hid f1
  have Hf2 := hid f2
  rw [hk] at hl1 ⊢
  rw [hk2] at hl2 ⊢
  clear h1 h2 f1 f2 hX hk hk2
  by_cases hkk : k = k2
  · subst hkk
    have hne : ((k : Int) != (k : Int)) = false := by simp
    go_enter Try.func16, Try.ntmps16
    go_wp2_with fail
    go_loopg [5] k (fun gk s5 wx => ∃ i q : Nat, i + gk = k ∧ s5 = .int .i64 (i : Int) ∧ L1.take i = L2.take i ∧ wx = w.drewN q)
    case atStart => exact ⟨0, 0, by omega, rfl, rfl, rfl⟩
    case round =>
      obtain ⟨i, q, hi, rfl, he, rfl⟩ := hrel
      have He := hid he
      by_cases hlt : i < k
      · have hltI : (i : Int) < (k : Int) := by omega
        obtain ⟨b1, o1, x1, rfl, hc1, hb1⟩ := Hf1.out i (by rw [Hk.out]; exact hlt)
        obtain ⟨b2, o2, x2, rfl, hc2, hb2⟩ := Hf2.out i (by rw [Hk2.out]; exact hlt)
        obtain ⟨r1, hr1⟩ : ∃ r, L1[i]'(by rw [Hk.out]; exact hlt) = r := ⟨_, rfl⟩
        obtain ⟨r2, hr2⟩ : ∃ r, L2[i]'(by rw [Hk2.out]; exact hlt) = r := ⟨_, rfl⟩
        rw [hr1] at hb1
        rw [hr2] at hb2
        obtain ⟨B1, d1, rfl⟩ := slice_len hb1 rfl
        obtain ⟨B2, d2, rfl⟩ := slice_len hb2 rfl
        have t1 := run_str Try.underlying25 Try.underlying5 Try.underlying9 (hb1.drewN q).drew
        have t2 := run_str Try.underlying25 Try.underlying5 Try.underlying9 (hb2.drewN q).drew
        have c1 : (w.drewN q).drew.cell? ⟨b1, o1 + i, none⟩ = some (.slice B1 r1.length d1) := hc1
        have c2 : (w.drewN q).drew.cell? ⟨b2, o2 + i, none⟩ = some (.slice B2 r2.length d2) := hc2
        have Hs := hid (And.intro c1 (And.intro c2 (And.intro t1 t2)))
        have Hr := hid (And.intro hr1 hr2)
        obtain ⟨e1, he1⟩ : ∃ e, r1.length = e := ⟨_, rfl⟩
        obtain ⟨e2, he2⟩ : ∃ e, r2.length = e := ⟨_, rfl⟩
        rw [he1, he2] at Hs
        have Hms := hid (show k - (i + 1) < gk ∧ i + 1 + (k - (i + 1)) = k by omega)
        clear hb1 hb2 hc1 hc2 t1 t2 c1 c2 hr1 hr2 he1 he2 he
        by_cases hrr : r1 = r2
        · subst hrr
          go_upto_region 6 with fail
          go_region_held3 (fun wy => wy.cell? ⟨b1, o1 + i, none⟩ = some (.slice B1 e1 d1) ∧ wy.cell? ⟨b2, o2 + i, none⟩ = some (.slice B2 e2 d2) ∧ Sem.run Try.prog (convert 25 9 (.slice B1 e1 d1)) wy = .ok (.string (mkStr r1)) wy ∧ Sem.run Try.prog (convert 25 9 (.slice B2 e2 d2)) wy = .ok (.string (mkStr r1)) wy) (exact Hs.out) (fail)
          all_goals
            go_wp2_with fail
            go_roundg (k - (i + 1))
            case measure => exact Hms.out.1
            case rel =>
              refine ⟨i + 1, q + 1, Hms.out.2, by go_num, ?_, rfl⟩
              rw [List.take_succ_eq_append_getElem (by rw [Hk.out]; exact hlt), List.take_succ_eq_append_getElem (by rw [Hk2.out]; exact hlt), He.out, Hr.out.1, Hr.out.2]
        · have hss : ((mkStr r1).toList == (mkStr r2).toList) = false := by rw [mkStr_toList, mkStr_toList]; exact beq_eq_false_iff_ne.2 hrr
          have hx : X = false := by
            rw [← HX.out]
            refine decide_eq_false (fun e => hrr ?_)
            subst e
            rw [← Hr.out.1, ← Hr.out.2]
          subst hx
          clear hrr
          go_upto_region 6 with fail
          go_region_held3 (fun wy => wy.cell? ⟨b1, o1 + i, none⟩ = some (.slice B1 e1 d1) ∧ wy.cell? ⟨b2, o2 + i, none⟩ = some (.slice B2 e2 d2) ∧ Sem.run Try.prog (convert 25 9 (.slice B1 e1 d1)) wy = .ok (.string (mkStr r1)) wy ∧ Sem.run Try.prog (convert 25 9 (.slice B2 e2 d2)) wy = .ok (.string (mkStr r2)) wy) (exact Hs.out) (fail)
          all_goals
            go_wp2_with fail
            go_ret
            exact ⟨rfl, q + 1, rfl⟩
      · obtain rfl : i = k := by omega
        have hltI : ¬ (i : Int) < (i : Int) := by omega
        have hx : X = true := by
          rw [← HX.out]
          refine decide_eq_true ?_
          rw [List.take_of_length_le (by rw [Hk.out]; exact Nat.le_refl _), List.take_of_length_le (by rw [Hk2.out]; exact Nat.le_refl _)] at he
          exact he
        subst hx
        clear he
        go_wp2_with fail
        go_ret
        exact ⟨rfl, q, rfl⟩
  · have hne : ((k : Int) != (k2 : Int)) = true := by simp; omega
    have hneI : ¬ (k : Int) = (k2 : Int) := by omega
    have hx : X = false := by
      rw [← HX.out]
      refine decide_eq_false (fun e => hkk ?_)
      rw [← Hk.out, ← Hk2.out, e]
    subst hx
    go_enter Try.func16, Try.ntmps16
    go_wp2_with fail
    go_ret
    exact ⟨rfl, 0, rfl⟩
end Go.Proofs.Ytgiegiobigdplaa
