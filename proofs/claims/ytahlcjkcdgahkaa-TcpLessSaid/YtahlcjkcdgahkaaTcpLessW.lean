/- The walk of TcpLess. -/
import Derived.Test.YtahlcjkcdgahkaaTcpQ
namespace Go.Proofs.Ytahlcjkcdgahkaa
open Go Go.RowKit
attribute [local go_sem ↓] Go.wp_at_zero Go.wp_at_succ
set_option maxRecDepth 100000

set_option maxHeartbeats 2000000 in
theorem tcpLess_walk (a b d : Nat) (ha : a < 4294967296) (hb : b < 4294967296) (w : World) :
    Calls Try.prog 4 #[.int .u32 (a : Int), .int .u32 (b : Int), .int .u32 (d : Int)] w fun e w' => e = .returned (.bool true) ∧ Below w.heap.size w w' := by
  obtain ⟨x, hx⟩ : ∃ x, mSub a b = x := ⟨_, rfl⟩
  have hxI : ((a : Int) - (b : Int)) % 4294967296 = (x : Int) := by rw [← hx]; unfold mSub; omega
  obtain ⟨ad, had⟩ : ∃ x, (a + d) % 4294967296 = x := ⟨_, rfl⟩
  obtain ⟨bd, hbd⟩ : ∃ x, (b + d) % 4294967296 = x := ⟨_, rfl⟩
  obtain ⟨a1, ha1⟩ : ∃ x, (a + 1) % 4294967296 = x := ⟨_, rfl⟩
  have hadI : ((a : Int) + (d : Int)) % 4294967296 = (ad : Int) := by omega
  have hbdI : ((b : Int) + (d : Int)) % 4294967296 = (bd : Int) := by omega
  have ha1I : ((a : Int) + 1) % 4294967296 = (a1 : Int) := by omega
  have S := tLess_spec a b ha hb
  have S3 := tLess_step a b d ha hb
  have S4 := tLess_next a
  rw [had, hbd] at S3
  rw [ha1] at S4
  obtain ⟨p, hp⟩ : ∃ p, tLess a b = p := ⟨_, rfl⟩
  obtain ⟨q, hq⟩ : ∃ p, tLess b a = p := ⟨_, rfl⟩
  have l1 := fun w => less_any a b ha hb w
  have l2 := fun w => less_any b a hb ha w
  have l3 := fun w => less_any ad bd (by omega) (by omega) w
  have l4 := fun w => less_any a a1 ha (by omega) w
  rw [hp] at l1 S S3
  rw [hq] at l2 S
  rw [S3] at l3
  rw [S4] at l4
  have L1 := hid l1
  have L2 := hid l2
  have L3 := hid l3
  have L4 := hid l4
  have Hx := hid hx
  have HS := hid S
  have Hbd := hid hbd
  clear l1 l2 l3 l4 hx S S3 S4 hp hq had hbd ha1
  by_cases hx0 : x = 2147483648
  · have hpq := HS.out.1 (by rw [← Hx.out] at hx0; unfold mSub at hx0; omega)
    obtain ⟨rfl, rfl⟩ := hpq
    subst hx0
    go_enter Try.func4, Try.ntmps4
    go_wp2_with (first | (go_at_call 13; refine (known_any _).mono ?_; rintro e w1 ⟨rfl, hb⟩; have Hb1 := hid hb; clear hb) | ((go_at_call 20; first | (with_reducible refine (L1.out _).mono ?_) | (with_reducible refine (L2.out _).mono ?_) | (with_reducible refine (L3.out _).mono ?_) | (with_reducible refine (L4.out _).mono ?_)); rintro e w' ⟨rfl, rfl⟩))
    go_ret
    exact ⟨rfl, Hb1.out⟩
  · have hpq := HS.out.2 (by rw [← Hx.out] at hx0; unfold mSub at hx0; omega)
    have hxb : ((x : Int) == 2147483648) = false := by simp; omega
    have Hpq := hid hpq
    clear hpq hx0
    by_cases hab : a = b
    · subst hab
      obtain ⟨rfl, rfl⟩ := Hpq.out.1.1 rfl
      obtain rfl : x = 0 := by rw [← Hx.out]; exact mSub_self a
      clear hxI hxb
      obtain rfl : bd = ad := by omega
      go_enter Try.func4, Try.ntmps4
      go_wp2_with (first | (go_at_call 13; refine (known_any _).mono ?_; rintro e w1 ⟨rfl, hb⟩; have Hb1 := hid hb; clear hb) | ((go_at_call 20; first | (with_reducible refine (L1.out _).mono ?_) | (with_reducible refine (L2.out _).mono ?_) | (with_reducible refine (L3.out _).mono ?_) | (with_reducible refine (L4.out _).mono ?_)); rintro e w' ⟨rfl, rfl⟩))
      go_ret
      exact ⟨rfl, Hb1.out⟩
    · have hab2 : ((a : Int) == (b : Int)) = false := by simp; omega
      have h1 := Hpq.out
      cases p with
      | false =>
        cases q with
        | false => exact absurd (h1.1.2 ⟨rfl, rfl⟩) hab
        | true =>
          clear h1
          go_enter Try.func4, Try.ntmps4
          go_wp2_with (first | (go_at_call 13; refine (known_any _).mono ?_; rintro e w1 ⟨rfl, hb⟩; have Hb1 := hid hb; clear hb) | ((go_at_call 20; first | (with_reducible refine (L1.out _).mono ?_) | (with_reducible refine (L2.out _).mono ?_) | (with_reducible refine (L3.out _).mono ?_) | (with_reducible refine (L4.out _).mono ?_)); rintro e w' ⟨rfl, rfl⟩))
          go_ret
          exact ⟨by simp_all, Hb1.out⟩
      | true =>
        cases q with
        | true => exact absurd ⟨rfl, rfl⟩ h1.2
        | false =>
          clear h1
          go_enter Try.func4, Try.ntmps4
          go_wp2_with (first | (go_at_call 13; refine (known_any _).mono ?_; rintro e w1 ⟨rfl, hb⟩; have Hb1 := hid hb; clear hb) | ((go_at_call 20; first | (with_reducible refine (L1.out _).mono ?_) | (with_reducible refine (L2.out _).mono ?_) | (with_reducible refine (L3.out _).mono ?_) | (with_reducible refine (L4.out _).mono ?_)); rintro e w' ⟨rfl, rfl⟩))
          go_ret
          exact ⟨by simp_all, Hb1.out⟩
end Go.Proofs.Ytahlcjkcdgahkaa
