/- Contracts of the document's chapter 1 (undercroftref1): Be, Le, put, PutLe, PutBe. -/
import Derived.Test.YtgiegiobigdplaaNumR
namespace Go.Proofs.Ytgiegiobigdplaa
open Go Go.RowKit
set_option maxRecDepth 100000

theorem rbe_any (v : Value) (b : List UInt8) (p n : Int) (w : World) (h : Bs w v b) (h1 : -9223372036854775808 ≤ p) (h2 : p ≤ 9223372036854775807) :
    Calls Try.prog 67 #[v, .int .i64 p, .int .i64 n] w fun e w' => e = .returned (.tuple #[.int .u64 (beVal (cutOf b p n).1 : Int), .int .i64 (cutOf b p n).2]) ∧ w = w' := by
  obtain ⟨A, cap, rfl, k1, k2, k3⟩ := h.cells
  have K3 := hid k3; clear k3 h
  by_cases hn : okSize n = true
  · have hsz := okSize_le hn
    by_cases hbad : p < 0 ∨ p > (b.length : Int) - n
    · have Hr := hid (show cutOf b p n = ([], 11) by simp [cutOf, hn, hbad])
      have Hn := hid hn; clear hn
      by_cases hneg : p < 0
      · have hd : decide (p < 0) = true := by simpa using hneg
        go_enter Try.func67, Try.ntmps67
        go_wp2_with ((go_at_call 70; refine (rsize_any _ _).mono ?_; rintro e w' ⟨rfl, rfl⟩); rw [Hn.out])
        go_ret2
        exact ⟨by rw [Hr.out]; rfl, rfl⟩
      · have hd : decide (p < 0) = false := by simpa using hneg
        by_cases hgt : (b.length : Int) < p
        · have hd2 : decide ((b.length : Int) < p) = true := by simpa using hgt
          go_enter Try.func67, Try.ntmps67
          go_wp2_with ((go_at_call 70; refine (rsize_any _ _).mono ?_; rintro e w' ⟨rfl, rfl⟩); rw [Hn.out])
          go_ret2
          exact ⟨by rw [Hr.out]; rfl, rfl⟩
        · have hd2 : decide ((b.length : Int) < p) = false := by simpa using hgt
          have hd3 : decide ((b.length : Int) - p < n) = true := by simp; omega
          go_enter Try.func67, Try.ntmps67
          go_wp2_with ((go_at_call 70; refine (rsize_any _ _).mono ?_; rintro e w' ⟨rfl, rfl⟩); rw [Hn.out])
          go_ret2
          exact ⟨by rw [Hr.out]; rfl, rfl⟩
    · obtain ⟨q, rfl⟩ : ∃ q : Nat, p = q := ⟨p.toNat, by omega⟩
      obtain ⟨m, rfl⟩ : ∃ m : Nat, n = m := ⟨n.toNat, by omega⟩
      have Hr := hid (show cutOf b q m = ((b.drop q).take m, 0) by simp only [cutOf, hn, if_neg hbad]; rfl)
      have Hn := hid hn; clear hn
      have hd : decide ((q : Int) < 0) = false := by simp
      have hd2 : decide ((b.length : Int) < (q : Int)) = false := by simp; omega
      have hd3 : decide ((b.length : Int) - (q : Int) < (m : Int)) = false := by simp; omega
      have hqm : q + m ≤ b.length := by omega
      clear hbad
      go_enter Try.func67, Try.ntmps67
      go_wp2_with ((go_at_call 70; refine (rsize_any _ _).mono ?_; rintro e w' ⟨rfl, rfl⟩); rw [Hn.out])
      go_loop [8, 9] (fun s i => ∃ j : Nat, j ≤ m ∧ i = .int .i64 j ∧ s = .int .u64 (beVal ((b.drop q).take j))) (fun _ i => m - (intOf i).toNat)
      case atStart => exact ⟨0, Nat.zero_le _, rfl, rfl⟩
      case round =>
        obtain ⟨j, hj, rfl, rfl⟩ := hrel
        by_cases hjt : j < m
        · have hqj : q + j < b.length := by omega
          obtain ⟨b1, off1, rfl, hcell1⟩ := K3.out (q + j) hqj
          have hb := b[q + j].toNat_lt
          have hS : beVal ((b.drop q).take j) ≤ 72057594037927935 := beVal_small (by simp; omega)
          have hor := shl_or _ b[q + j].toNat hS hb
          have HS := hid (show beVal ((b.drop q).take (j + 1)) = beVal ((b.drop q).take j) * 256 + b[q + j].toNat by
            rw [take_snoc _ _ (by simp; omega), beVal_snoc]; simp)
          generalize beVal ((b.drop q).take j) = S at *
          go_wp2
          go_round
          case rel => exact ⟨j + 1, by omega, by go_num, by rw [HS.out]; go_num⟩
          case measure => simp [intOf]; omega
        · obtain rfl : j = m := by omega
          go_wp2
          go_ret2
          exact ⟨by rw [Hr.out]; rfl, rfl⟩
  · have hn' : okSize n = false := by simpa using hn
    have Hr := hid (show cutOf b p n = ([], 1) by simp [cutOf, hn])
    have Hn := hid hn'; clear hn hn'
    go_enter Try.func67, Try.ntmps67
    go_wp2_with ((go_at_call 70; refine (rsize_any _ _).mono ?_; rintro e w' ⟨rfl, rfl⟩); rw [Hn.out])
    go_ret2
    exact ⟨by rw [Hr.out]; rfl, rfl⟩
/-- what Be has read, its lowest byte last: the bytes turned about -/
theorem beVal_div (l : List UInt8) (j : Nat) (h : j ≤ l.length) : beVal l / 256 ^ j = beVal (l.take (l.length - j)) := by
  induction j with
  | zero => simp
  | succ j ih =>
    rw [Nat.pow_succ, ← Nat.div_div_eq_div_mul, ih (by omega)]
    have e : l.length - j = (l.length - (j + 1)) + 1 := by omega
    rw [e, take_snoc _ _ (by omega), beVal_snoc]
    have := (l[l.length - (j + 1)]'(by omega)).toNat_lt
    omega
theorem beVal_mod (l : List UInt8) (j : Nat) (h : j < l.length) : beVal l / 256 ^ j % 256 = (l[l.length - 1 - j]'(by omega)).toNat := by
  rw [beVal_div l j (by omega)]
  have e : l.length - j = (l.length - 1 - j) + 1 := by omega
  rw [e, take_snoc _ _ (by omega), beVal_snoc]
  have := (l[l.length - 1 - j]'(by omega)).toNat_lt
  omega

theorem rle_any (v : Value) (b : List UInt8) (p n : Int) (w : World) (h : Bs w v b) (h1 : -9223372036854775808 ≤ p) (h2 : p ≤ 9223372036854775807) :
    Calls Try.prog 63 #[v, .int .i64 p, .int .i64 n] w fun e w' => e = .returned (.tuple #[.int .u64 (leVal (cutOf b p n).1 : Int), .int .i64 (cutOf b p n).2]) ∧ w = w' := by
  have hq := rbe_any v b p n w h h1 h2
  by_cases hn : okSize n = true
  · have hsz := okSize_le hn
    by_cases hbad : p < 0 ∨ p > (b.length : Int) - n
    · have hr : cutOf b p n = ([], 11) := by simp [cutOf, hn, hbad]
      rw [hr] at hq ⊢
      have Hq := hid hq; clear hq hr h hn hbad
      go_enter Try.func63, Try.ntmps63
      go_wp2_with ((go_at_call 67; refine (Hq.out).mono ?_; rintro e w' ⟨rfl, rfl⟩))
      go_ret2
      exact ⟨rfl, rfl⟩
    · obtain ⟨m, rfl⟩ : ∃ m : Nat, n = m := ⟨n.toNat, by omega⟩
      have hr : cutOf b p m = ((b.drop p.toNat).take m, 0) := by simp only [cutOf, hn, if_neg hbad]; rfl
      have hlen : ((b.drop p.toNat).take m).length = m := by simp; omega
      rw [hr] at hq ⊢
      have Hq := hid hq; clear hq hr h hn hbad
      simp only at Hq ⊢
      generalize (b.drop p.toNat).take m = row at *
      subst hlen
      go_enter Try.func63, Try.ntmps63
      go_wp2_with ((go_at_call 67; refine (Hq.out).mono ?_; rintro e w' ⟨rfl, rfl⟩))
      go_loop [8, 10, 11] (fun v u i => ∃ j : Nat, j ≤ row.length ∧ i = .int .i64 j ∧ v = .int .u64 ((beVal row / 256 ^ j : Nat) : Int) ∧ u = .int .u64 (leVal (row.drop (row.length - j)))) (fun _ _ i => row.length - (intOf i).toNat)
      case atStart => exact ⟨0, Nat.zero_le _, rfl, by simp, by simp [leVal, beVal]⟩
      case round =>
        obtain ⟨j, hj, rfl, rfl, rfl⟩ := hrel
        by_cases hjt : j < row.length
        · have hV : beVal row / 256 ^ j < 18446744073709551616 := Nat.lt_of_le_of_lt (Nat.div_le_self _ _) (beVal_u64 (by omega))
          have hmod := beVal_mod row j hjt
          have hb := row[row.length - 1 - j].toNat_lt
          have hS : leVal (row.drop (row.length - j)) ≤ 72057594037927935 := leVal_small (by simp; omega)
          have hor := shl_or _ row[row.length - 1 - j].toNat hS hb
          have HS := hid (show leVal (row.drop (row.length - (j + 1))) = leVal (row.drop (row.length - j)) * 256 + row[row.length - 1 - j].toNat by
            rw [show row.length - (j + 1) = row.length - 1 - j from by omega, List.drop_eq_getElem_cons (by omega), leVal_cons, show row.length - 1 - j + 1 = row.length - j from by omega])
          have HY := hid (show beVal row / 256 ^ (j + 1) = beVal row / 256 ^ j / 256 by rw [Nat.pow_succ, Nat.div_div_eq_div_mul])
          generalize leVal (row.drop (row.length - j)) = S at *
          generalize beVal row / 256 ^ j = Y at *
          generalize row[row.length - 1 - j].toNat = x at *
          have hand : bits .and .u64 (Y : Int) 255 = (x : Int) := by
            rw [show (255 : Int) = ((255 : Nat) : Int) from rfl, u64_and_nat Y 255 hV (by omega), nat_mask8, hmod]
          clear hmod
          go_wp2
          go_round
          case rel => exact ⟨j + 1, by omega, by go_num, by rw [HY.out]; go_num, by rw [HS.out]; go_num⟩
          case measure => simp [intOf]; omega
        · obtain rfl : j = row.length := by omega
          go_wp2
          go_ret2
          exact ⟨ret_two (by simp) rfl, rfl⟩
  · have hr : cutOf b p n = ([], 1) := by simp [cutOf, hn]
    rw [hr] at hq ⊢
    have Hq := hid hq; clear hq hr h hn
    go_enter Try.func63, Try.ntmps63
    go_wp2_with ((go_at_call 67; refine (Hq.out).mono ?_; rintro e w' ⟨rfl, rfl⟩))
    go_ret2
    exact ⟨rfl, rfl⟩
theorem fits_dec' (N x : Nat) (h : N ≠ 8) : (((x : Int) / 2 ^ (8 * N)) != 0) = !(fitsOne N x) := by rw [two_pow_8]; exact fits_dec N x h

end Go.Proofs.Ytgiegiobigdplaa
