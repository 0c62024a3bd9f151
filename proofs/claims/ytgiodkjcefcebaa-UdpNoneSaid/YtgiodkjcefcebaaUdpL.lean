/- The law's own helpers of chapter 14: within, same, known. -/
import Derived.Test.YtgiodkjcefcebaaUdpF
namespace Go.Proofs.Ytgiodkjcefcebaa
open Go Go.RowKit

theorem within_any (at_ : Int) (n : Nat) (w : World) (hn : 0 < n) (hn2 : n ≤ 1099511627776) :
    Calls Try.prog 12 #[.int .i64 at_, .int .i64 n] w fun e w' => ∃ k : Nat, k < n ∧ e = .returned (.int .i64 k) ∧ w = w' := by
  have hb : (at_.tmod (n : Int)).natAbs < n := by rw [Int.natAbs_tmod]; exact Nat.mod_lt _ (by omega)
  have hne : (n : Int) ≠ 0 := by omega
  go_enter Try.func12, Try.ntmps12
  by_cases hneg : at_.tmod (n : Int) < 0
  · have hw : IntKind.i64.wrap (at_.tmod (n : Int)) = at_.tmod (n : Int) := IntWalk.i64_in _ (by omega)
    go_wp2_with fail
    go_ret
    exact ⟨(at_.tmod (n : Int) + n).toNat, by omega, ret_int (by omega), rfl⟩
  · have hw : IntKind.i64.wrap (at_.tmod (n : Int)) = at_.tmod (n : Int) := IntWalk.i64_in _ (by omega)
    go_wp2_with fail
    go_ret
    exact ⟨(at_.tmod (n : Int)).toNat, by omega, ret_int (by omega), rfl⟩

theorem within_at (at_ nI : Int) (n : Nat) (w : World) (h : nI = n) (hn : 0 < n) (hn2 : n ≤ 1099511627776) :
    Calls Try.prog 12 #[.int .i64 at_, .int .i64 nI] w fun e w' => ∃ k : Nat, k < n ∧ e = .returned (.int .i64 k) ∧ w = w' := by
  subst h
  exact within_any at_ n w hn hn2

theorem same_any (v1 v2 : Value) (f t : Int) (data : List UInt8) (w : World) (h1 : Bs w v1 data) (h2 : Bs w v2 data) :
    Calls Try.prog 11 #[.agg #[.int .i64 f, .int .i64 t, v1], .agg #[.int .i64 f, .int .i64 t, v2]] w fun e w' => e = .returned (.bool true) ∧ Below w.heap.size w w' := by
  have B1 := hid ((h1.alloc (.cells #[.int .i64 f, .int .i64 t, v1] 25)).alloc (.cells #[.int .i64 f, .int .i64 t, v2] 30))
  have B2 := hid ((h2.alloc (.cells #[.int .i64 f, .int .i64 t, v1] 25)).alloc (.cells #[.int .i64 f, .int .i64 t, v2] 30))
  obtain ⟨A1, cap1, rfl, _, _, _⟩ := h1.cells
  obtain ⟨A2, cap2, rfl, _, _, _⟩ := h2.cells
  clear h1 h2
  have s1 := run_str Try.underlying23 Try.underlying5 Try.underlying9 B1.out
  have s2 := run_str Try.underlying23 Try.underlying5 Try.underlying9 B2.out
  have c1 := ((Blk.new w 25 #[.int .i64 f, .int .i64 t, .slice A1 data.length cap1]).alloc (.cells #[.int .i64 f, .int .i64 t, .slice A2 data.length cap2] 30)).cell
  go_enter Try.func11, Try.ntmps11
  go_wp2_with fail
  go_ret
  exact ⟨rfl, below_alloc' (below_alloc w _) _⟩

theorem known_write : udpWrite 1 2 700 2049 [1] = ([2, 188, 8, 1, 0, 9, 244, 28, 1], 0) := by decide

theorem known_any (w : World) :
    Calls Try.prog 6 #[] w fun e w' => e = .returned (.bool true) ∧ Below w.heap.size w w' := by
  obtain ⟨ii, hii, hz, hss, hby⟩ := info_parts u8info
  clear hz hby
  have smk := mkStr_toList [2, 188, 8, 1, 0, 9]
  go_enter Try.func6, Try.ntmps6
  go_wp2_with (first
    | ((go_at_call 9; refine (write_any (.slice (some ⟨w.heap.size, 0, none⟩) 1 1) [1] 1 2 700 2049 _ (bs_litm #[.int .u8 1] [1] _ _ rfl rfl (by decide) rfl) (by simp) (by decide) (by decide)).mono ?_; rintro e w' ⟨v, rfl, hown, hb⟩); rw [known_write] at hown ⊢; simp only at hown ⊢; have Hb := hid ((below_alloc w _).trans (hb.mono (by simp))); obtain ⟨A, cap, rfl, k1, k2, _⟩ := hown.bs.cells; have c6 := run_cut_to (P := Try.prog) (T := 23) Try.underlying23 hii A 9 cap .i64 6 6 rfl (by simp at k1; omega); have s6 := run_str Try.underlying23 Try.underlying5 Try.underlying9 (show Bs w' (.slice (cutA A cap 0 1) 6 cap) [2, 188, 8, 1, 0, 9] from by have := Bs.cut (l := 0) (k := 6) hown.bs (by simp); simpa using this); rw [hss] at c6; clear hown hb))
  go_ret
  exact ⟨rfl, Hb.out⟩
end Go.Proofs.Ytgiodkjcefcebaa
