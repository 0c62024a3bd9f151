/- The document's connection in memory; what it tells of itself. -/
import Derived.Test.YtahlcjkcdgahkaaRcL
import Derived.Test.YtahlcjkcdgahkaaSegH
import Derived.BigQuiet
import Derived.Deep.QuietTactic
import Derived.Deep.CutRange
import Derived.Deep.LoopGhost
namespace Go.Proofs.Ytahlcjkcdgahkaa
open Go Go.RowKit
attribute [local go_sem ↓] Go.wp_at_zero Go.wp_at_succ
set_option maxRecDepth 100000

theorem find_at {α : Type} (ps : List α) (f : α → Bool) (k : Nat) (hk : k < ps.length) (h : ∀ x ∈ ps.take k, f x = false) (hf : f ps[k] = true) : ps.find? f = some ps[k] := by
  have h0 : ps = ps.take k ++ ps[k] :: ps.drop (k + 1) := by rw [← List.drop_eq_getElem_cons hk, List.take_append_drop]
  have h1 : (ps.take k).find? f = none := List.find?_eq_none.2 fun x hx => by simp [h x hx]
  have h2 : (ps.take k ++ ps[k] :: ps.drop (k + 1)).find? f = some ps[k] := by
    rw [List.find?_append, h1, List.find?_cons_of_pos hf]
    rfl
  exact (congrArg (List.find? f) h0).trans h2
def ltCells (x : Nat × UInt8) : List Value := [.int .u32 (x.1 : Int), u8v x.2]
def ltRow (lt : List (Nat × UInt8)) : List Value := lt.flatMap ltCells
theorem ltRow_at (lt : List (Nat × UInt8)) (i j : Nat) (hi : i < lt.length) (hj : j < 2) : (ltRow lt)[i * 2 + j]? = (ltCells lt[i])[j]? := by
  induction lt generalizing i with
  | nil => simp at hi
  | cons x lt ih =>
    have hx : (ltCells x).length = 2 := rfl
    rw [show ltRow (x :: lt) = ltCells x ++ ltRow lt from rfl]
    cases i with
    | zero => rw [List.getElem?_append_left (by rw [hx]; omega)]; simp
    | succ i =>
      rw [List.getElem?_append_right (by rw [hx]; omega), hx, show (i + 1) * 2 + j - 2 = i * 2 + j by omega, ih i (by simpa using hi)]
      rfl
theorem ltRow_snoc (lt : List (Nat × UInt8)) (n : Nat) (b : UInt8) : ltRow (lt ++ [(n, b)]) = ltRow lt ++ [.int .u32 (n : Int), u8v b] := by
  unfold ltRow
  rw [List.flatMap_append]
  rfl
theorem lt_cells {w : World} {A : Option Addr} {n cap : Nat} {lt : List (Nat × UInt8)} (h : RowN w 2 (.slice A n cap) n (ltRow lt)) (hn : lt.length = n) (i : Nat) (hi : i < n) :
    ∃ b o, A = some ⟨b, o, none⟩ ∧ w.cell? ⟨b, o + i * 2, none⟩ = some (.int .u32 ((lt[i]'(by omega)).1 : Int)) ∧ w.cell? ⟨b, o + i * 2 + 1, none⟩ = some (u8v (lt[i]'(by omega)).2) := by
  obtain ⟨hl, A1, c1, hv, _, _, hc⟩ := h
  injection hv with e1 e2 e3
  rcases hc with hc | ⟨b, o, hA, hc⟩
  · rw [hc] at hi; cases hi
  · refine ⟨b, o, e1.trans hA, ?_, ?_⟩
    · have := hc (i * 2 + 0) _ (ltRow_at lt i 0 (by omega) (by omega))
      exact this
    · rw [Nat.add_assoc]
      exact hc (i * 2 + 1) _ (ltRow_at lt i 1 (by omega) (by omega))

set_option maxHeartbeats 1000000 in
theorem rwindow_at (g : Nat) (A : Option Addr) (n cap : Nat) (w : World) (hn : n ≤ 16384) (c6 : w.cell? ⟨g, 6, none⟩ = some (.slice A n cap)) :
    Calls Try.prog 67 #[.pointer (some ⟨g, 0, none⟩)] w fun e w' => e = .returned (.int .i64 (16384 - (n : Int))) ∧ w' = w := by
  go_enter Try.func67, Try.ntmps67
  go_wp2_with fail
  go_ret
  exact ⟨rfl, rfl⟩
set_option maxHeartbeats 1000000 in
theorem runsent_at (g : Nat) (A : Option Addr) (n cap : Nat) (w : World) (c10 : w.cell? ⟨g, 10, none⟩ = some (.slice A n cap)) :
    Calls Try.prog 28 #[.pointer (some ⟨g, 0, none⟩)] w fun e w' => e = .returned (.int .i64 (n : Int)) ∧ w' = w := by
  go_enter Try.func28, Try.ntmps28
  go_wp2_with fail
  go_ret
  exact ⟨rfl, rfl⟩
set_option maxHeartbeats 1000000 in
theorem rawaited_at (g : Nat) (A : Option Addr) (n cap r k : Nat) (w : World) (hn : n ≤ 16384) (hr : r < 4294967296) (hk : k < 4294967296) (c6 : w.cell? ⟨g, 6, none⟩ = some (.slice A n cap)) (c3 : w.cell? ⟨g, 3, none⟩ = some (.int .u32 (r : Int))) :
    Calls Try.prog 76 #[.pointer (some ⟨g, 0, none⟩), .int .u32 (k : Int)] w fun e w' => e = .returned (.bool (decide (mSub k r < 16384 - n))) ∧ ∃ q, w' = w.drewN q := by
  have h2 : ((k : Int) - (r : Int)) % 4294967296 = (mSub k r : Int) := by unfold mSub; omega
  have H2 := hid h2
  have h3 : (mSub k r : Int) < 16384 - (n : Int) ∨ ¬ (mSub k r : Int) < 16384 - (n : Int) := by omega
  have hlt := mSub_lt k r
  have HA := fun q => rwindow_at g A n cap (w.drewN q) hn c6
  have HA := hid HA
  obtain ⟨d, hd⟩ : ∃ d, mSub k r = d := ⟨_, rfl⟩
  have H4 := hid (show decide (d < 16384 - n) = decide ((d : Int) < 16384 - (n : Int)) by apply decide_eq_decide.2; omega)
  rw [hd] at h2 hlt ⊢
  rw [H4.out]
  clear H2 h3 hd hr hk
  go_enter Try.func76, Try.ntmps76
  go_wp2_with fail
  go_quiet ((go_at_call 67; exact Calls.quiet_of_same (HA.out _)))
  go_wp2_with fail
  go_ret
  exact ⟨ret_bool (by first | rfl | simp), _, rfl⟩
set_option maxHeartbeats 2000000 in
theorem rat_at (g : Nat) (lt : List (Nat × UInt8)) (vo : Value) (k : Nat) (w : World) (hm : lt.length ≤ 100000000) (c7 : w.cell? ⟨g, 7, none⟩ = some vo) (hrow : RowN w 2 vo lt.length (ltRow lt)) (hlt : ∀ x ∈ lt, x.1 < 4294967296) :
    Calls Try.prog 75 #[.pointer (some ⟨g, 0, none⟩), .int .u32 (k : Int)] w fun e w' => e = .returned (.tuple #[.int .u8 (((ltFind lt k).getD 0).toNat : Int), .bool (ltFind lt k).isSome]) ∧ w' = w := by
  obtain ⟨n, hn⟩ : ∃ n, lt.length = n := ⟨_, rfl⟩
  rw [hn] at hrow hm
  have Hn := hid hn
  obtain ⟨_, B, cap, rfl, hc1, hc2, _⟩ := (show RowN w 2 vo n (ltRow lt) from hrow)
  have hc3 : cap ≤ 9223372036854775807 := by simp only [maxLen] at hc2; omega
  have HR := hid hrow
  have HL := hid hlt
  clear hrow hn hc2 hlt
  go_enter Try.func75, Try.ntmps75
  go_wp2_with fail
  go_loopg [6] n (fun gk s6 wr => ∃ j : Nat, j ≤ n ∧ n - j ≤ gk ∧ s6 = .int .i64 (j : Int) ∧ wr = w ∧ Hid (∀ x ∈ lt.take j, x.1 ≠ k))
  case atStart => exact ⟨0, Nat.zero_le _, by omega, rfl, rfl, hid fun x hx => by simp at hx⟩
  case round =>
    obtain ⟨j, hj, hgk, rfl, hwr, hno⟩ := hrel
    subst hwr
    by_cases hjl : j < n
    · have hjI : (j : Int) < (n : Int) := by omega
      have hjn : j < lt.length := by rw [Hn.out]; exact hjl
      obtain ⟨gB, oB, rfl, d0, d1⟩ := lt_cells HR.out Hn.out j hjl
      have hj1 : IntKind.i64.wrap ((j : Int) + 1) = ((j + 1 : Nat) : Int) := by rw [IntWalk.i64_in _ (by omega)]; omega
      have htk := take_snoc lt j hjn
      have hxl := HL.out lt[j] (List.getElem_mem hjn)
      have hfi : lt[j].1 = k → ltFind lt k = some lt[j].2 := fun e => by
        unfold ltFind
        rw [find_at lt (fun x => decide (x.1 = k)) j hjn (fun x hx => decide_eq_false (hno.out x hx)) (decide_eq_true e)]
        rfl
      generalize lt[j] = x at d0 d1 htk hxl hfi
      obtain ⟨xn, xb⟩ := x
      simp only at d0 d1 hxl hfi
      unfold u8v at d1
      by_cases he : xn = k
      · have Hfi := hid (hfi he)
        have heI : ((xn : Int) == (k : Int)) = true := by simp [he]
        clear hfi htk he
        go_wp2_with fail
        go_ret2
        rw [Hfi.out]
        exact ⟨rfl, rfl⟩
      · have heI : ((xn : Int) == (k : Int)) = false := by simp; omega
        have Htk := hid htk
        have He := hid he
        clear hfi htk he
        go_wp2_with fail
        go_roundg (n - (j + 1))
        case measure => omega
        case rel => exact ⟨j + 1, by omega, Nat.le_refl _, rfl, rfl, hid (fun y hy => by
          rw [Htk.out] at hy
          rcases List.mem_append.1 hy with hy | hy
          · exact hno.out y hy
          · simp at hy; subst hy; exact He.out)⟩
    · obtain rfl : j = n := by omega
      have hjI : ¬ (j : Int) < (j : Int) := by omega
      have Hnone := hid (show ltFind lt k = none by
        unfold ltFind
        rw [List.find?_eq_none.2 fun x hx => ?_]
        · rfl
        · have := hno.out x (by rw [List.take_of_length_le (by rw [Hn.out]; exact Nat.le_refl _)]; exact hx)
          simpa using this)
      go_wp2_with fail
      go_ret2
      rw [Hnone.out]
      exact ⟨rfl, rfl⟩
def rWay (st : Int) (u n : Nat) (fin : Bool) : Int := if st = 1 then 0 else (mSub n u : Int) - (if fin then 1 else 0)
set_option maxHeartbeats 2000000 in
theorem rway_at (g : Nat) (st : Int) (u n : Nat) (fin : Bool) (w : World) (hu : u < 4294967296) (hn : n < 4294967296) (c2 : w.cell? ⟨g, 2, none⟩ = some (.int .i64 st)) (c4 : w.cell? ⟨g, 4, none⟩ = some (.int .u32 (u : Int))) (c5 : w.cell? ⟨g, 5, none⟩ = some (.int .u32 (n : Int))) (c14 : w.cell? ⟨g, 14, none⟩ = some (.bool fin)) :
    Calls Try.prog 70 #[.pointer (some ⟨g, 0, none⟩)] w fun e w' => e = .returned (.int .i64 (rWay st u n fin)) ∧ ∃ q, w' = w.drewN q := by
  obtain ⟨d, hd⟩ : ∃ d, mSub n u = d := ⟨_, rfl⟩
  have h2 : ((n : Int) - (u : Int)) % 4294967296 = (d : Int) := by rw [← hd]; unfold mSub; omega
  have hdl := mSub_lt n u
  unfold rWay
  rw [hd] at hdl ⊢
  clear hd hu hn
  have hz : ∃ q, w = w.drewN q := ⟨0, rfl⟩
  have Hz := hid hz
  clear hz
  by_cases h1 : st = 1
  · subst h1
    rw [if_pos rfl]
    go_enter Try.func70, Try.ntmps70
    go_wp2_with fail
    go_ret
    exact ⟨rfl, Hz.out⟩
  · rw [if_neg h1]
    have h1b : (st == 1) = false := by simpa using h1
    clear h1
    cases fin
    all_goals
      go_enter Try.func70, Try.ntmps70
      go_wp2_with fail
      go_quiet (fail)
      go_wp2_with fail
      go_ret
      exact ⟨ret_int (by simp), _, rfl⟩
end Go.Proofs.Ytahlcjkcdgahkaa
