/- The walk of NumCuts. -/
import Derived.Test.YtgmeogcgcabjoaaNumL
import Derived.Deep.RegionHeld3
import Derived.Deep.DrawnRows
import Derived.Deep.Cut
import Derived.Deep.CutRange
namespace Go.Proofs.Ytgmeogcgcabjoaa
open Go Go.RowKit
attribute [local go_sem ↓] Go.wp_at_zero Go.wp_at_succ

theorem Rows8.alloc {w : World} {v : Value} {rows : List (List UInt8)} (h : Rows8 w v rows) (o : Obj) : Rows8 (w.alloc o) v rows := by
  obtain ⟨vs, h1, h2⟩ := h
  exact ⟨vs, h1.alloc o, fun i x r a b => (h2 i x r a b).alloc o⟩
theorem Rows8.drew {w : World} {v : Value} {rows : List (List UInt8)} (h : Rows8 w v rows) : Rows8 w.drew v rows := h
theorem Rows8.drewN {w : World} {v : Value} {rows : List (List UInt8)} (h : Rows8 w v rows) (n : Nat) : Rows8 (w.drewN n) v rows := h
theorem rows_four {w : World} {e : TypeId} {mk : Nat × Nat} {x y z u : Value} {a b c d : List UInt8} {H : Nat} (h1 : Bs w x a) (h2 : Bs w y b) (h3 : Bs w z c) (h4 : Bs w u d) (hH : H = w.heap.size) :
    Rows8 (w.alloc (.cells #[x, y, z, u] e mk)) (.slice (some ⟨H, 0, none⟩) 4 4) [a, b, c, d] :=
  ⟨[x, y, z, u], row_litm #[x, y, z, u] _ 4 H rfl rfl (by decide) hH, fun i p r g1 g2 => by
    match i with
    | 0 => simp at g1 g2; subst g1; subst g2; exact h1.alloc _
    | 1 => simp at g1 g2; subst g1; subst g2; exact h2.alloc _
    | 2 => simp at g1 g2; subst g1; subst g2; exact h3.alloc _
    | 3 => simp at g1 g2; subst g1; subst g2; exact h4.alloc _
    | i + 4 => simp at g1⟩
theorem rows_three {w : World} {e : TypeId} {mk : Nat × Nat} {x y z : Value} {a b c : List UInt8} {H : Nat} (h1 : Bs w x a) (h2 : Bs w y b) (h3 : Bs w z c) (hH : H = w.heap.size) :
    Rows8 (w.alloc (.cells #[x, y, z] e mk)) (.slice (some ⟨H, 0, none⟩) 3 3) [a, b, c] :=
  ⟨[x, y, z], row_litm #[x, y, z] _ 3 H rfl rfl (by decide) hH, fun i p r g1 g2 => by
    match i with
    | 0 => simp at g1 g2; subst g1; subst g2; exact h1.alloc _
    | 1 => simp at g1 g2; subst g1; subst g2; exact h2.alloc _
    | 2 => simp at g1 g2; subst g1; subst g2; exact h3.alloc _
    | i + 3 => simp at g1⟩

theorem cut3 (b : List UInt8) (p q : Nat) (h : p ≤ q) : [b.take p, (b.drop p).take (q - p), b.drop q].flatten = b := by
  have h1 : (b.drop p).take (q - p) ++ b.drop q = b.drop p := by
    have : b.drop q = (b.drop p).drop (q - p) := by rw [List.drop_drop]; congr 1; omega
    rw [this, List.take_append_drop]
  simp only [List.flatten_cons, List.flatten_nil, List.append_nil, h1, List.take_append_drop]

theorem tmod_bd (i : Int) (n : Nat) : -(n : Int) ≤ i.tmod ((n : Int) + 1) ∧ i.tmod ((n : Int) + 1) ≤ n := by
  have h1 : (i.tmod ((n : Int) + 1)).natAbs < n + 1 := by
    rw [Int.natAbs_tmod]
    exact Nat.mod_lt _ (by omega)
  omega

set_option maxHeartbeats 2000000 in
theorem numCuts_walk (v : Value) (b : List UInt8) (i j : Int) (w : World) (h : Bs w v b) :
    Calls Try.prog 4 #[v, .int .i64 i, .int .i64 j] w fun e w' => e = .returned (.bool true) ∧ Below w.heap.size w w' := by
  have Hb := hid h
  obtain ⟨A, cap, rfl, k1, k2, _⟩ := h.cells
  clear h
  by_cases hbig : 16384 < b.length
  · go_enter Try.func4, Try.ntmps4
    go_wp2_with ((go_at_call 9; refine (known_any _).mono ?_; rintro e w' ⟨rfl, hb2⟩); have Hb3 := hid hb2; clear hb2)
    go_ret
    exact ⟨rfl, Hb3.out⟩
  · have hP := tmod_bd i b.length
    have hQ := tmod_bd j b.length
    go_enter Try.func4, Try.ntmps4
    go_upto_if 25 with ((go_at_call 9; refine (known_any _).mono ?_; rintro e w' ⟨rfl, hb2⟩); have Hb3 := hid hb2; clear hb2)
    generalize i.tmod ((b.length : Int) + 1) = P at *
    generalize j.tmod ((b.length : Int) + 1) = Q at *
    go_cut [7] from 25 to 27 (fun s w2 => w2 = w' ∧ ∃ p : Nat, p ≤ b.length ∧ s = .int .i64 p)
    case first =>
      by_cases hneg : P < 0
      all_goals
        go_wp2_with fail
        go_meet
        case rel => exact ⟨rfl, P.natAbs, by omega, val_int (by omega)⟩
    case rest =>
    obtain ⟨rfl, p, hpl, rfl⟩ := hcut
    go_upto_if 29 with (fail)
    go_cut [8] from 28 to 31 (fun s w2 => w2 = wc ∧ ∃ p : Nat, p ≤ b.length ∧ s = .int .i64 p)
    case first =>
      by_cases hneg : Q < 0
      all_goals
        go_wp2_with fail
        go_meet
        case rel => exact ⟨rfl, Q.natAbs, by omega, val_int (by omega)⟩
    case rest =>
    obtain ⟨rfl, q, hql, rfl⟩ := hcut
    go_upto_if 34 with (fail)
    go_cut [7, 8] from 32 to 36 (fun s u w2 => w2 = wc ∧ ∃ p q : Nat, p ≤ q ∧ q ≤ b.length ∧ s = .int .i64 p ∧ u = .int .i64 q)
    case first =>
      by_cases hgt : q < p
      · go_wp2_with fail
        go_meet
        case rel => exact ⟨rfl, q, p, by omega, hpl, rfl, rfl⟩
      · go_wp2_with fail
        go_meet
        case rel => exact ⟨rfl, p, q, by omega, hql, rfl, rfl⟩
    case rest =>
    obtain ⟨rfl, p, q, hpq, hql, rfl, rfl⟩ := hcut
    obtain ⟨ii, hii, hz, hs, hby⟩ := info_parts u8info
    have c1 := run_cut_to (P := Try.prog) (T := 24) Try.underlying24 hii A b.length cap .i64 p p rfl (by omega)
    have c2 := run_cut (P := Try.prog) (T := 24) Try.underlying24 hii A b.length cap .i64 .i64 p q p (q - p) rfl (by omega) (by omega)
    have c3 := run_cut_from (P := Try.prog) (T := 24) Try.underlying24 hii A b.length cap .i64 q q (b.length - q) rfl (by omega) (by omega)
    rw [hs] at c1 c2 c3
    clear hii hz hs hby
    go_upto_region 13 with (fail)
    have Hb4 := hid (Hb.out.below Hb3.out)
    have B1 := hid (show Bs wc (.slice (cutA A cap 0 1) p cap) (b.take p) by have := Bs.cut (l := 0) (k := p) Hb4.out (by omega); simpa using this)
    have B2 := hid (Bs.cut (l := p) (k := q - p) Hb4.out (by omega))
    have B3 := hid (show Bs wc (.slice (cutA A cap q 1) (b.length - q) (cap - q)) (b.drop q) by have := Bs.cut (l := q) (k := b.length - q) Hb4.out (by omega); rwa [List.take_of_length_le (by simp)] at this)
    have hS1 : [b].flatten.length ≤ 1099511627776 := by simp; omega
    have hS3 : [b.take p, (b.drop p).take (q - p), b.drop q].flatten.length ≤ 1099511627776 := by rw [cut3 b p q hpq]; omega
    have F1 := hid (show crc [b].flatten = crc b by simp)
    have F2 := hid (show crc [b.take p, (b.drop p).take (q - p), [], b.drop q].flatten = crc b by
      have := cut3 b p q hpq
      simp only [List.flatten_cons, List.flatten_nil, List.append_nil, List.nil_append] at this ⊢
      rw [this])
    have F3 := hid (show inet [b].flatten = inet b by simp)
    have F4 := hid (show inet [b.take p, (b.drop p).take (q - p), b.drop q].flatten = inet b by rw [cut3 b p q hpq])
    go_region_held3 (fun _ => True) (trivial) (first
      | ((go_at_call 11; (with_reducible refine (crc_any (.slice _ 1 1) [b] _ (by ((repeat (first | (with_reducible refine rows_one ?_ (by simp)) | refine Rows8.alloc ?_ _ | refine Rows8.drew ?_ | refine Rows8.drewN ?_ _)); (repeat (first | exact Hb4.out | exact B1.out | exact B2.out | exact B3.out | exact Bs.nil _ | refine Bs.alloc ?_ _ | refine Bs.drew ?_ | refine Bs.drewN ?_ _))))).mono ?_); rintro e w' ⟨rfl, rfl⟩); rw [F1.out])
      | ((go_at_call 11; (with_reducible refine (crc_any (.slice _ 4 4) [b.take p, (b.drop p).take (q - p), [], b.drop q] _ (by ((repeat (first | (with_reducible refine rows_four ?_ ?_ ?_ ?_ (by simp)) | refine Rows8.alloc ?_ _ | refine Rows8.drew ?_ | refine Rows8.drewN ?_ _)); all_goals (repeat (first | exact Hb4.out | exact B1.out | exact B2.out | exact B3.out | exact Bs.nil _ | refine Bs.alloc ?_ _ | refine Bs.drew ?_ | refine Bs.drewN ?_ _))))).mono ?_); rintro e w' ⟨rfl, rfl⟩); rw [F2.out])
      | ((go_at_call 12; (with_reducible refine (inet_any (.slice _ 1 1) [b] _ (by ((repeat (first | (with_reducible refine rows_one ?_ (by simp)) | refine Rows8.alloc ?_ _ | refine Rows8.drew ?_ | refine Rows8.drewN ?_ _)); (repeat (first | exact Hb4.out | exact B1.out | exact B2.out | exact B3.out | exact Bs.nil _ | refine Bs.alloc ?_ _ | refine Bs.drew ?_ | refine Bs.drewN ?_ _)))) hS1).mono ?_); rintro e w' ⟨rfl, rfl⟩); rw [F3.out])
      | ((go_at_call 12; (with_reducible refine (inet_any (.slice _ 3 3) [b.take p, (b.drop p).take (q - p), b.drop q] _ (by ((repeat (first | (with_reducible refine rows_three ?_ ?_ ?_ (by simp)) | refine Rows8.alloc ?_ _ | refine Rows8.drew ?_ | refine Rows8.drewN ?_ _)); all_goals (repeat (first | exact Hb4.out | exact B1.out | exact B2.out | exact B3.out | exact Bs.nil _ | refine Bs.alloc ?_ _ | refine Bs.drew ?_ | refine Bs.drewN ?_ _)))) hS3).mono ?_); rintro e w' ⟨rfl, rfl⟩); rw [F4.out]))
    all_goals go_wp2_with fail
    all_goals go_ret
    all_goals refine ⟨rfl, ?_⟩
    all_goals (repeat (first | exact Hb3.out | refine below_alloc' ?_ _ | refine Below.drew ?_ | refine below_drewN ?_ _))
end Go.Proofs.Ytgmeogcgcabjoaa
