/- How long a queue and a card are; where they may lie; the ring's places. -/
import Derived.Test.YtgiegiobigdplaaVnA
import Derived.Deep.LoopGhost
namespace Go.Proofs.Ytgiegiobigdplaa
open Go Go.RowKit
attribute [local go_sem ↓] Go.wp_at_zero Go.wp_at_succ
set_option maxRecDepth 100000
set_option linter.unusedSimpArgs false

/-- may a queue have so many? -/
def okN (n : Int) : Bool := n == 1 || n == 2 || n == 4 || n == 8 || n == 16 || n == 32 || n == 64 || n == 128 || n == 256
theorem okN_iff {n : Int} : okN n = true ↔ n = 1 ∨ n = 2 ∨ n = 4 ∨ n = 8 ∨ n = 16 ∨ n = 32 ∨ n = 64 ∨ n = 128 ∨ n = 256 := by
  unfold okN
  simp [or_assoc]
theorem okN_le {n : Int} (h : okN n = true) : 1 ≤ n ∧ n ≤ 256 := by have := okN_iff.1 h; omega
theorem okN_and : ∀ k : Fin 257, 1 ≤ k.val → (bits .and .i64 (k.val : Int) ((k.val : Int) - 1) != 0) = !(okN (k.val : Int)) := by decide +kernel
def vSizeI (n : Int) : Int := if okN n then 8 + 26 * n else 0
def vAreaI (n : Int) : Int := if okN n then 2 * (8 + 26 * n) + 2 * n * 1528 else 0
/-- may a card lie there? -/
def vFits (L : Nat) (base n : Int) : Bool := okN n && decide (0 ≤ base) && decide (base + vAreaI n ≤ (L : Int))
theorem vSizeI_of {n : Nat} (h : okN (n : Int) = true) : vSizeI (n : Int) = (vSize n : Int) := by unfold vSizeI vSize; rw [if_pos h]; omega
theorem vAreaI_of {n : Nat} (h : okN (n : Int) = true) : vAreaI (n : Int) = (vArea n : Int) := by unfold vAreaI vArea vSize; rw [if_pos h]; omega

theorem vsize_any (n : Int) (w : World) : Calls Try.prog 25 #[.int .i64 n] w fun e w' => e = .returned (.int .i64 (vSizeI n)) ∧ w' = w := by
  by_cases h1 : n < 1
  · have HR := hid (show vSizeI n = 0 by unfold vSizeI; rw [if_neg]; intro h; have := okN_le h; omega)
    go_enter Try.func25, Try.ntmps25
    go_wp2_with fail
    go_ret
    rw [HR.out]
    exact ⟨rfl, rfl⟩
  by_cases h2 : n > 256
  · have HR := hid (show vSizeI n = 0 by unfold vSizeI; rw [if_neg]; intro h; have := okN_le h; omega)
    go_enter Try.func25, Try.ntmps25
    go_wp2_with fail
    go_ret
    rw [HR.out]
    exact ⟨rfl, rfl⟩
  obtain ⟨k, rfl⟩ : ∃ k : Nat, n = k := ⟨n.toNat, by omega⟩
  have hk := okN_and ⟨k, by omega⟩ (by show 1 ≤ k; omega)
  simp only at hk
  cases hok : okN (k : Int) with
  | true =>
    have HR := hid (show vSizeI (k : Int) = 8 + 26 * (k : Int) by unfold vSizeI; rw [if_pos hok])
    rw [hok] at hk
    clear hok
    have hk : (bits .and .i64 (k : Int) ((k : Int) - 1) != 0) = false := hk
    go_enter Try.func25, Try.ntmps25
    go_wp2_with fail
    go_ret
    rw [HR.out]
    exact ⟨rfl, rfl⟩
  | false =>
    have HR := hid (show vSizeI (k : Int) = 0 by unfold vSizeI; rw [hok]; rfl)
    rw [hok] at hk
    clear hok
    have hk : (bits .and .i64 (k : Int) ((k : Int) - 1) != 0) = true := hk
    go_enter Try.func25, Try.ntmps25
    go_wp2_with fail
    go_ret
    rw [HR.out]
    exact ⟨rfl, rfl⟩
theorem varea_any (n : Int) (w : World) : Calls Try.prog 8 #[.int .i64 n] w fun e w' => e = .returned (.int .i64 (vAreaI n)) ∧ w' = w := by
  have HS := hid (vsize_any n w)
  cases hok : okN n with
  | true =>
    have HA := hid (show vAreaI n = 2 * (8 + 26 * n) + 2 * n * 1528 by unfold vAreaI; rw [hok]; rfl)
    have HV := hid (show vSizeI n = 8 + 26 * n by unfold vSizeI; rw [hok]; rfl)
    have hb := okN_le hok
    rw [HV.out] at HS
    clear hok
    have hz : (8 + 26 * n == 0) = false := beq_eq_false_iff_ne.2 (by omega)
    go_enter Try.func8, Try.ntmps8
    go_wp2_with (go_at_call 25; refine HS.out.mono ?_; rintro e w' ⟨rfl, rfl⟩)
    go_ret
    rw [HA.out]
    exact ⟨rfl, rfl⟩
  | false =>
    have HA := hid (show vAreaI n = 0 by unfold vAreaI; rw [hok]; rfl)
    have HV := hid (show vSizeI n = 0 by unfold vSizeI; rw [hok]; rfl)
    rw [HV.out] at HS
    clear hok
    go_enter Try.func8, Try.ntmps8
    go_wp2_with (go_at_call 25; refine HS.out.mono ?_; rintro e w' ⟨rfl, rfl⟩)
    go_ret
    rw [HA.out]
    exact ⟨rfl, rfl⟩
theorem vfits_any (A : Option Addr) (L cap : Nat) (base n : Int) (w : World) (hL : L ≤ 1000000) :
    Calls Try.prog 27 #[.slice A L cap, .int .i64 base, .int .i64 n] w fun e w' => e = .returned (.bool (vFits L base n)) ∧ w' = w := by
  have HS := hid (varea_any n w)
  cases hok : okN n with
  | true =>
    obtain ⟨ar, har⟩ : ∃ x, vAreaI n = x := ⟨_, rfl⟩
    have hb := okN_le hok
    have ha : 0 < ar ∧ ar ≤ 800000 := by rw [← har]; unfold vAreaI; rw [if_pos hok]; omega
    have HR := hid (show vFits L base n = (decide (0 ≤ base) && decide (base + ar ≤ (L : Int))) by unfold vFits; rw [hok, har]; simp)
    rw [har] at HS
    have ha1 : ar > 0 := ha.1
    clear hok har
    by_cases h0 : 0 ≤ base
    · have h0' : base ≥ 0 := h0
      have HR := hid (show vFits L base n = decide (base ≤ (L : Int) - ar) by rw [HR.out, decide_eq_true h0, Bool.true_and]; exact decide_eq_decide.2 (by omega))
      go_enter Try.func27, Try.ntmps27
      go_wp2_with (go_at_call 8; refine HS.out.mono ?_; rintro e w' ⟨rfl, rfl⟩)
      go_ret
      rw [HR.out]
      exact ⟨rfl, rfl⟩
    · have h0' : ¬ base ≥ 0 := h0
      have HR := hid (show vFits L base n = false by rw [HR.out]; simp [h0])
      go_enter Try.func27, Try.ntmps27
      go_wp2_with (go_at_call 8; refine HS.out.mono ?_; rintro e w' ⟨rfl, rfl⟩)
      go_ret
      rw [HR.out]
      exact ⟨rfl, rfl⟩
  | false =>
    have HR := hid (show vFits L base n = false by unfold vFits; rw [hok]; rfl)
    have HV := hid (show vAreaI n = 0 by unfold vAreaI; rw [hok]; rfl)
    rw [HV.out] at HS
    clear hok
    go_enter Try.func27, Try.ntmps27
    go_wp2_with (go_at_call 8; refine HS.out.mono ?_; rintro e w' ⟨rfl, rfl⟩)
    go_ret
    rw [HR.out]
    exact ⟨rfl, rfl⟩
theorem vavail_at (g n : Nat) (w : World) (hn : n ≤ 256) (c1 : w.cell? ⟨g, 1, none⟩ = some (.int .i64 (n : Int))) :
    Calls Try.prog 59 #[.pointer (some ⟨g, 0, none⟩)] w fun e w' => e = .returned (.int .i64 (16 * (n : Int))) ∧ w' = w := by
  go_enter Try.func59, Try.ntmps59
  go_wp2_with fail
  go_ret
  exact ⟨rfl, rfl⟩
theorem vback_at (g n : Nat) (w : World) (hn : n ≤ 256) (c1 : w.cell? ⟨g, 1, none⟩ = some (.int .i64 (n : Int))) :
    Calls Try.prog 61 #[.pointer (some ⟨g, 0, none⟩)] w fun e w' => e = .returned (.int .i64 (18 * (n : Int) + 4)) ∧ w' = w := by
  go_enter Try.func61, Try.ntmps61
  go_wp2_with fail
  go_ret
  exact ⟨rfl, rfl⟩
theorem vnext_at (k : Nat) (w : World) (hk : k < 65536) :
    Calls Try.prog 60 #[.int .i64 (k : Int)] w fun e w' => e = .returned (.int .i64 (((k + 1) % 65536 : Nat) : Int)) ∧ w' = w := by
  have hv : ((k : Int) + 1) % 65536 = (((k + 1) % 65536 : Nat) : Int) := by omega
  have Hv := hid hv
  clear hv
  go_enter Try.func60, Try.ntmps60
  go_wp2_with fail
  go_ret
  first
    | exact ⟨congrArg (fun x => Ending.returned (Value.int .i64 x)) Hv.out, rfl⟩
    | (refine ⟨?_, rfl⟩; rw [← Hv.out])
theorem rvsize_any (n : Int) (w : World) : Calls Try.prog 26 #[.int .i64 n] w fun e w' => e = .returned (.int .i64 (vSizeI n)) ∧ w' = w := by
  go_enter Try.func26, Try.ntmps26
  go_wp2_with fail
  go_loopg [3] 1000 (fun gk s3 wx => ∃ k : Nat, gk + k = 1001 ∧ s3 = .int .i64 (k : Int) ∧ (k = 1 ∨ k = 2 ∨ k = 4 ∨ k = 8 ∨ k = 16 ∨ k = 32 ∨ k = 64 ∨ k = 128 ∨ k = 256 ∨ k = 512) ∧ (okN n = true → (k : Int) ≤ n) ∧ wx = w)
  case atStart => exact ⟨1, rfl, rfl, .inl rfl, fun h => (okN_le h).1, rfl⟩
  case round =>
    obtain ⟨k, hgk, rfl, hk, hn, hw⟩ := hrel
    have hw := hw.symm
    subst hw
    by_cases h5 : k = 512
    · subst h5
      have HR := hid (show vSizeI n = 0 by unfold vSizeI; rw [if_neg]; intro h; have := okN_le h; have := hn h; omega)
      clear hn hk
      go_wp2_with fail
      go_ret
      rw [HR.out]
      exact ⟨rfl, rfl⟩
    have h6 : (k : Int) ≤ 256 := by omega
    by_cases he : (k : Int) = n
    · subst he
      have hok : okN (k : Int) = true := okN_iff.2 (by omega)
      have HR := hid (show vSizeI (k : Int) = 8 + 26 * (k : Int) by unfold vSizeI; rw [if_pos hok])
      clear hn hk hok
      go_wp2_with fail
      go_ret
      rw [HR.out]
      exact ⟨rfl, rfl⟩
    · have hb : ((k : Int) == n) = false := by simpa using he
      have Hn := hid (show okN n = true → ((2 * k : Nat) : Int) ≤ n from fun h => by have h1 := hn h; have h2 := okN_iff.1 h; omega)
      have Hk := hid (show 2 * k = 1 ∨ 2 * k = 2 ∨ 2 * k = 4 ∨ 2 * k = 8 ∨ 2 * k = 16 ∨ 2 * k = 32 ∨ 2 * k = 64 ∨ 2 * k = 128 ∨ 2 * k = 256 ∨ 2 * k = 512 by omega)
      have Hg := hid (show 1001 - 2 * k < gk ∧ 1001 - 2 * k + 2 * k = 1001 by omega)
      clear hn hk he
      go_wp2_with fail
      go_roundg (1001 - 2 * k)
      case measure => exact Hg.out.1
      case rel => exact ⟨2 * k, Hg.out.2, by go_num, Hk.out, Hn.out, rfl⟩
end Go.Proofs.Ytgiegiobigdplaa
