/- Contracts of the document's chapter 1 (undercroftref1): size, Be, Le, put, PutLe, PutBe, Crc, Inet. -/
import Derived.Test.YtahlcjkcdgahkaaNumC
namespace Go.Proofs.Ytahlcjkcdgahkaa
open Go Go.RowKit
set_option maxRecDepth 100000

theorem rsize_any (n : Int) (w : World) : Calls Try.prog 79 #[.int .i64 n] w fun e w' => e = .returned (.bool (okSize n)) ∧ w = w' := by
  unfold okSize
  cases e1 : (n == 1)
  · cases e2 : (n == 2)
    · cases e4 : (n == 4)
      · cases e8 : (n == 8)
        all_goals
          go_enter Try.func79, Try.ntmps79
          go_wp2
          go_ret
          exact ⟨rfl, rfl⟩
      · go_enter Try.func79, Try.ntmps79
        go_wp2
        go_ret
        exact ⟨rfl, rfl⟩
    · go_enter Try.func79, Try.ntmps79
      go_wp2
      go_ret
      exact ⟨rfl, rfl⟩
  · go_enter Try.func79, Try.ntmps79
    go_wp2
    go_ret
    exact ⟨rfl, rfl⟩
theorem rinet_any (v : Value) (bs : List UInt8) (w : World) (h : Bs w v bs) (hl : bs.length ≤ 1099511627776) :
    Calls Try.prog 57 #[v] w fun e w' => e = .returned (.int .u16 (inet bs : Int)) ∧ w = w' := by
  obtain ⟨A, cap, rfl, h1, h2, h3⟩ := h.cells
  clear h
  have K3 := hid h3; clear h3
  go_enter Try.func57, Try.ntmps57
  go_wp2
  go_loop [3, 4] (fun s i => ∃ k : Nat, k ≤ bs.length ∧ i = .int .i64 k ∧ s = .int .u64 (inetAcc false 0 (bs.take k))) (fun _ i => bs.length - (intOf i).toNat)
  case atStart => exact ⟨0, Nat.zero_le _, rfl, rfl⟩
  case round =>
    obtain ⟨k, hk, rfl, rfl⟩ := hrel
    have hb0 : inetAcc false 0 (bs.take k) ≤ 65280 * 1099511627776 := by
      have := inetAcc_le false 0 (bs.take k)
      have h4 : (bs.take k).length ≤ bs.length := by simp; omega
      omega
    by_cases hlt : k < bs.length
    · obtain ⟨b, off, rfl, hcell⟩ := K3.out k hlt
      have hb := bs[k].toNat_lt
      have hS : inetAcc false 0 (bs.take (k + 1)) = inetAcc (inetOdd false (bs.take k)) (inetAcc false 0 (bs.take k)) [bs[k]] := by rw [take_snoc _ _ hlt, inetAcc_append]
      have hod := inetOdd_len false (bs.take k)
      rw [List.length_take, Nat.min_eq_left (by omega)] at hod
      rcases Nat.mod_two_eq_zero_or_one k with h2 | h2
      · have hodd : inetOdd false (bs.take k) = false := by rw [hod, h2]; rfl
        rw [hodd] at hS
        have HS := hid hS
        clear hS hodd hod
        generalize inetAcc false 0 (bs.take k) = S at *
        have hrem : ((k : Int) % 2 == 0) = true := by simp; omega
        clear h2
        go_wp2
        go_round
        case rel => exact ⟨k + 1, by omega, by go_num, by rw [HS.out]; simp [inetAcc]⟩
        case measure => simp [intOf]; omega
      · have hodd : inetOdd false (bs.take k) = true := by rw [hod, h2]; rfl
        rw [hodd] at hS
        have HS := hid hS
        clear hS hodd hod
        generalize inetAcc false 0 (bs.take k) = S at *
        have hrem : ((k : Int) % 2 == 0) = false := by simp; omega
        clear h2
        go_wp2
        go_round
        case rel => exact ⟨k + 1, by omega, by go_num, by rw [HS.out]; simp [inetAcc]⟩
        case measure => simp [intOf]; omega
    · have hall : bs.take k = bs := List.take_of_length_le (by omega)
      rw [hall] at hb0 ⊢
      have Hin := hid (show inet bs = 65535 - fold16 (inetAcc false 0 bs) from rfl)
      clear hall
      generalize inetAcc false 0 bs = S0 at *
      go_wp2
      go_loop [3] (fun s => ∃ S : Nat, S ≤ 65280 * 1099511627776 ∧ fold16 S = fold16 S0 ∧ s = .int .u64 S) (fun s => (intOf s).toNat)
      case atStart => exact ⟨S0, hb0, rfl, rfl⟩
      case round =>
        obtain ⟨S, hS, hf, rfl⟩ := hrel
        have Hf := hid hf; clear hf
        by_cases hf : 65535 < S
        · have hand : bits .and .u64 (S : Int) 65535 = ((S % 65536 : Nat) : Int) := by
            rw [show (65535 : Int) = ((65535 : Nat) : Int) from rfl, u64_and_nat S 65535 (by omega) (by omega), nat_mask16]
          have hne : ((S : Int) / 65536 != 0) = true := by simp; omega
          go_wp2
          go_round
          case rel => exact ⟨S % 65536 + S / 65536, by omega, by rw [← fold16_big hf]; exact Hf.out, by go_num⟩
          case measure => simp [intOf]; omega
        · have hfs := fold16_small (n := S) (by omega)
          have hnot := not_u16 S (by omega)
          have hne : ((S : Int) / 65536 != 0) = false := by simp; omega
          go_wp2
          go_ret
          exact ⟨ret_int (by rw [Hin.out, ← Hf.out, hfs]), rfl⟩
end Go.Proofs.Ytahlcjkcdgahkaa
