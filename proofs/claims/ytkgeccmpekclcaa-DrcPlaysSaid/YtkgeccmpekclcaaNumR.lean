/- Contracts of the document's chapter 1 (undercroftref1): size, Be, Le, put, PutLe, PutBe, Crc, Inet. -/
import Derived.Test.YtkgeccmpekclcaaNumC
namespace Go.Proofs.Ytkgeccmpekclcaa
open Go Go.RowKit
set_option maxRecDepth 100000

theorem rsize_any (n : Int) (w : World) : Calls Try.prog 27 #[.int .i64 n] w fun e w' => e = .returned (.bool (okSize n)) ∧ w = w' := by
  unfold okSize
  cases e1 : (n == 1)
  · cases e2 : (n == 2)
    · cases e4 : (n == 4)
      · cases e8 : (n == 8)
        all_goals
          go_enter Try.func27, Try.ntmps27
          go_wp2
          go_ret
          exact ⟨rfl, rfl⟩
      · go_enter Try.func27, Try.ntmps27
        go_wp2
        go_ret
        exact ⟨rfl, rfl⟩
    · go_enter Try.func27, Try.ntmps27
      go_wp2
      go_ret
      exact ⟨rfl, rfl⟩
  · go_enter Try.func27, Try.ntmps27
    go_wp2
    go_ret
    exact ⟨rfl, rfl⟩
theorem rcrc_any (v : Value) (bs : List UInt8) (w : World) (h : Bs w v bs) :
    Calls Try.prog 25 #[v] w fun e w' => e = .returned (.int .u32 (crc bs : Int)) ∧ w = w' := by
  obtain ⟨A, cap, rfl, h1, h2, h3⟩ := h.cells
  clear h
  have K3 := hid h3; clear h3
  go_enter Try.func25, Try.ntmps25
  go_wp2
  go_loop [3, 4] (fun s i => ∃ k : Nat, k ≤ bs.length ∧ i = .int .i64 k ∧ s = .int .u32 (crcAll 4294967295 (bs.take k))) (fun _ i => bs.length - (intOf i).toNat)
  case atStart => exact ⟨0, Nat.zero_le _, rfl, rfl⟩
  case round =>
    obtain ⟨k, hk, rfl, rfl⟩ := hrel
    have hc := crcAll_lt (c := 4294967295) (bs.take k) (by omega)
    by_cases hlt : k < bs.length
    · obtain ⟨b, off, rfl, hcell⟩ := K3.out k hlt
      have hb := bs[k].toNat_lt
      have HS := hid (show crcAll 4294967295 (bs.take (k + 1)) = crcByte (crcAll 4294967295 (bs.take k)) bs[k] by rw [take_snoc _ _ hlt, crcAll_append]; rfl)
      generalize crcAll 4294967295 (bs.take k) = S at *
      have hx : bits .xor .u32 (S : Int) (bs[k].toNat : Int) = ((S ^^^ bs[k].toNat : Nat) : Int) := u32_xor_nat _ _ hc (by omega)
      have hx2 : S ^^^ bs[k].toNat < 4294967296 := Nat.xor_lt_two_pow (n := 32) hc (by omega)
      go_wp2
      go_loop [3, 5] (fun s i => ∃ m : Nat, m ≤ 8 ∧ i = .int .i64 m ∧ s = .int .u32 (crcSteps m (S ^^^ bs[k].toNat))) (fun _ i => 8 - (intOf i).toNat)
      case atStart => exact ⟨0, Nat.zero_le _, rfl, rfl⟩
      case round =>
        obtain ⟨m, hm, rfl, rfl⟩ := hrel
        have hm1 := crcSteps_lt m hx2
        by_cases hmt : m < 8
        · have hstep : crcSteps (m + 1) (S ^^^ bs[k].toNat) = crcStep (crcSteps m (S ^^^ bs[k].toNat)) := rfl
          have Hst := hid hstep; clear hstep
          generalize crcSteps m (S ^^^ bs[k].toNat) = c at *
          have hand : bits .and .u32 (c : Int) 1 = ((c % 2 : Nat) : Int) := by
            rw [show (1 : Int) = ((1 : Nat) : Int) from rfl, u32_and_nat c 1 hm1 (by omega), nat_mask1]
          have hxor : bits .xor .u32 ((c : Int) / 2) 2197175160 = (((c / 2) ^^^ 2197175160 : Nat) : Int) := by
            rw [show ((c : Int) / 2) = ((c / 2 : Nat) : Int) from by omega, show (2197175160 : Int) = ((2197175160 : Nat) : Int) from rfl, u32_xor_nat _ _ (by omega) (by omega)]
          rcases Nat.mod_two_eq_zero_or_one c with h2 | h2
          · have hst : crcStep c = c / 2 := by unfold crcStep; rw [if_neg (by omega)]
            have Hst2 := hid hst
            rw [h2] at hand
            clear hst h2
            go_wp2
            go_round
            case rel => exact ⟨m + 1, by omega, by go_num, by rw [Hst.out, Hst2.out]; go_num⟩
            case measure => simp [intOf]; omega
          · have hst : crcStep c = (c / 2) ^^^ 2197175160 := by unfold crcStep; rw [if_pos h2]
            have Hst2 := hid hst
            rw [h2] at hand
            clear hst h2
            go_wp2
            go_round
            case rel => exact ⟨m + 1, by omega, by go_num, by rw [Hst.out, Hst2.out]⟩
            case measure => simp [intOf]; omega
        · obtain rfl : m = 8 := by omega
          go_wp2
          go_round
          case rel => exact ⟨k + 1, by omega, by go_num, by rw [HS.out]; rfl⟩
          case measure => simp [intOf]; omega
    · have hall : bs.take k = bs := List.take_of_length_le (by omega)
      rw [hall] at hc ⊢
      clear hall
      have hnot := not_u32 _ hc
      go_wp2
      go_ret
      exact ⟨rfl, rfl⟩
end Go.Proofs.Ytkgeccmpekclcaa
