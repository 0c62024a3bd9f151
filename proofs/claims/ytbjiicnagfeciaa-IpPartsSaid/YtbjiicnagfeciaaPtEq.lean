/- slices.Equal of bytes. -/
import Derived.Test.YtbjiicnagfeciaaPtA
namespace Go.Proofs.Ytbjiicnagfeciaa
open Go Go.RowKit
attribute [local go_sem ↓] Go.wp_at_zero Go.wp_at_succ
set_option maxRecDepth 100000

theorem equal_any (v u : Value) (a b : List UInt8) (w : World) (ha : Bs w v a) (hb : Bs w u b) (hl : a.length ≤ 1000000) :
    Calls Try.prog 52 #[v, u] w fun e w' => e = .returned (.bool (decide (a = b))) ∧ ∃ q, w' = w.drewN q := by
  obtain ⟨n, hn⟩ : ∃ n, a.length = n := ⟨_, rfl⟩
  obtain ⟨m, hm⟩ : ∃ n, b.length = n := ⟨_, rfl⟩
  obtain ⟨A, ca, rfl⟩ := slice_len ha hn
  obtain ⟨B, cb, rfl⟩ := slice_len hb hm
  obtain ⟨_, _, _, ka⟩ := Bs.open ha
  obtain ⟨_, _, _, kb⟩ := Bs.open hb
  have Hn := hid hn
  have Hm := hid hm
  have KA := hid ka
  have KB := hid kb
  rw [hn] at hl
  clear ka kb ha hb
  by_cases hnm : n = m
  case neg =>
    have hd : decide (a = b) = false := decide_eq_false (fun e => hnm (by rw [← hn, ← hm, e]))
    have Hd := hid hd
    have hne : ¬ (n : Int) = (m : Int) := by omega
    have hnb : ((n : Int) != (m : Int)) = true := by simp; omega
    clear hn hm hd
    go_enter Try.func52, Try.ntmps52
    go_wp2_with fail
    go_ret
    exact ⟨ret_bool Hd.out.symm, 0, rfl⟩
  subst hnm
  clear hn hm
  have hnb : ((n : Int) != (n : Int)) = false := by simp
  go_enter Try.func52, Try.ntmps52
  go_wp2_with fail
  go_loopw [13] (fun i wr => ∃ (j q : Nat), j ≤ n ∧ i = .int .i64 (j : Int) ∧ wr = w.drewN q ∧ Hid (a.take j = b.take j)) (fun i _ => n - (intOf i).toNat)
  case atStart => exact ⟨0, 0, Nat.zero_le _, rfl, rfl, hid rfl⟩
  case round =>
    obtain ⟨j, q, hj, rfl, rfl, HE⟩ := hrel
    by_cases hlt : j < n
    · have hltI : (j : Int) < (n : Int) := by omega
      have hja : j < a.length := by have := Hn.out; omega
      have hjb : j < b.length := by have := Hm.out; omega
      obtain ⟨ga, oa, rfl, hca⟩ := KA.out.resolve_left (by omega)
      obtain ⟨gb, ob, rfl, hcb⟩ := KB.out.resolve_left (by omega)
      have xa : (w.drewN q).cell? ⟨ga, oa + j, none⟩ = some (.int .u8 (a[j].toNat : Int)) := hca j hja
      have xb : (w.drewN q).cell? ⟨gb, ob + j, none⟩ = some (.int .u8 (b[j].toNat : Int)) := hcb j hjb
      have hj1 : IntKind.i64.wrap ((j : Int) + 1) = ((j + 1 : Nat) : Int) := by rw [IntWalk.i64_in _ (by omega)]; omega
      obtain ⟨wy, hwy⟩ : ∃ wy, wy = w.drewN q := ⟨_, rfl⟩
      rw [← hwy] at xa xb ⊢
      have Hwy := hid hwy
      clear hca hcb hwy
      by_cases he : a[j] = b[j]
      · have HE2 := hid (show a.take (j + 1) = b.take (j + 1) by rw [take_snoc a j hja, take_snoc b j hjb, HE.out, he])
        rw [he] at xa
        have hxb : ((b[j].toNat : Int) != (b[j].toNat : Int)) = false := by simp
        clear he
        go_wp2_with fail
        go_quiet (fail)
        go_wp2_with fail
        go_roundw
        case rel => exact ⟨j + 1, q + nq, by omega, rfl, by rw [Hwy.out]; simp [World.drewN, Nat.add_assoc], HE2⟩
        case measure => simp [intOf]; omega
      · have hxb : ((a[j].toNat : Int) != (b[j].toNat : Int)) = true := by
          simp only [bne_iff_ne, ne_eq]
          intro e
          exact he (UInt8.toNat_inj.1 (by omega))
        have hxn : ¬ (a[j].toNat : Int) = (b[j].toNat : Int) := by simpa using hxb
        have Hd := hid (show decide (a = b) = false from decide_eq_false (fun e => he (by subst e; rfl)))
        clear he
        go_wp2_with fail
        go_quiet (fail)
        go_wp2_with fail
        go_ret
        exact ⟨ret_bool Hd.out.symm, q + nq, by rw [Hwy.out]; simp [World.drewN, Nat.add_assoc]⟩
    · have : j = n := by omega
      subst this
      have hltI : ¬ (j : Int) < (j : Int) := by omega
      have Hd := hid (show decide (a = b) = true from decide_eq_true (by
        have := HE.out
        rwa [List.take_of_length_le (by have := Hn.out; omega), List.take_of_length_le (by have := Hm.out; omega)] at this))
      go_wp2_with fail
      go_ret
      exact ⟨ret_bool Hd.out.symm, q, rfl⟩
end Go.Proofs.Ytbjiicnagfeciaa
