/- How many bytes are under way, how many wait. -/
import Derived.Test.YtahlcjkcdgahkaaTcpF
namespace Go.Proofs.Ytahlcjkcdgahkaa
open Go Go.RowKit
attribute [local go_sem ↓] Go.wp_at_zero Go.wp_at_succ
set_option maxRecDepth 100000

theorem sent_at (g : Nat) (o : TOut) (w : World) (hn : o.n < 4294967296) (hb : o.base < 4294967296) (c7 : w.cell? ⟨g, 7, none⟩ = some (.int .u32 (o.n : Int))) (c8 : w.cell? ⟨g, 8, none⟩ = some (.int .u32 (o.base : Int))) (c15 : w.cell? ⟨g, 15, none⟩ = some (.bool o.fin)) :
    Calls Try.prog 62 #[.pointer (some ⟨g, 6, none⟩)] w fun e w' => e = .returned (.int .i64 o.sent) ∧ ∃ q, w' = w.drewN q := by
  obtain ⟨d, hd⟩ : ∃ d, mSub o.n o.base = d := ⟨_, rfl⟩
  have hdI : ((o.n : Int) - (o.base : Int)) % 4294967296 = (d : Int) := by rw [← hd]; unfold mSub; omega
  have hdl : d < 4294967296 := by rw [← hd]; exact mSub_lt _ _
  have Hd := hid hd
  clear hd
  cases hf : o.fin with
  | false =>
    rw [hf] at c15
    have Hf := hid hf
    clear hf
    go_enter Try.func62, Try.ntmps62
    go_wp2_with fail
    go_quiet (fail)
    go_wp2_with fail
    go_ret
    exact ⟨ret_int (by unfold TOut.sent; rw [Hd.out, Hf.out]; simp), nq, rfl⟩
  | true =>
    rw [hf] at c15
    have Hf := hid hf
    clear hf
    go_enter Try.func62, Try.ntmps62
    go_wp2_with fail
    go_quiet (fail)
    go_wp2_with fail
    go_ret
    exact ⟨ret_int (by unfold TOut.sent; rw [Hd.out, Hf.out]; simp), nq, rfl⟩
theorem left_at (g : Nat) (o : TOut) (A : Option Addr) (n cap : Nat) (w : World) (hn : o.n < 4294967296) (hb : o.base < 4294967296) (hl : o.bytes.length = n) (hn2 : n ≤ 1000000) (c7 : w.cell? ⟨g, 7, none⟩ = some (.int .u32 (o.n : Int))) (c8 : w.cell? ⟨g, 8, none⟩ = some (.int .u32 (o.base : Int))) (c9 : w.cell? ⟨g, 9, none⟩ = some (.slice A n cap)) (c15 : w.cell? ⟨g, 15, none⟩ = some (.bool o.fin)) :
    Calls Try.prog 44 #[.pointer (some ⟨g, 6, none⟩)] w fun e w' => e = .returned (.int .i64 o.left) ∧ ∃ q, w' = w.drewN q := by
  obtain ⟨s, hs⟩ : ∃ s, o.sent = s := ⟨_, rfl⟩
  have hs1 : -1 ≤ s ∧ s < 4294967296 := by
    rw [← hs]
    unfold TOut.sent
    have := mSub_lt o.n o.base
    split <;> omega
  have HS := hid (fun q => sent_at g o (w.drewN q) hn hb c7 c8 c15)
  rw [hs] at HS
  have hw : IntKind.i64.wrap ((n : Int) - s) = (n : Int) - s := IntWalk.i64_in _ (by omega)
  have Hs := hid hs
  have Hl := hid hl
  clear hs hl
  go_enter Try.func44, Try.ntmps44
  go_wp2_with fail
  go_quiet ((go_at_call 62; exact Calls.quiet_of (HS.out _)))
  go_wp2_with fail
  go_ret
  exact ⟨ret_int (by unfold TOut.left; rw [Hs.out, Hl.out]), nq, rfl⟩
end Go.Proofs.Ytahlcjkcdgahkaa
