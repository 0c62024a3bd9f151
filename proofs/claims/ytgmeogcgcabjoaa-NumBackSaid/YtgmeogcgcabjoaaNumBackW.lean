/- The walk of NumBack. -/
import Derived.Test.YtgmeogcgcabjoaaNumL
import Derived.Deep.Cut
import Derived.Deep.CutRange
namespace Go.Proofs.Ytgmeogcgcabjoaa
open Go Go.RowKit

theorem beBytes_rev (n v : Nat) : beBytes n v = (leBytes n v).reverse := by
  apply List.ext_getElem
  · simp [beBytes, leBytes]
  · intro i h1 h2
    have hi : i < n := by simpa [beBytes] using h1
    simp [beBytes, leBytes]
theorem leBytes_succ (n v : Nat) : leBytes (n + 1) v = UInt8.ofNat v :: leBytes n (v / 256) := by
  apply List.ext_getElem
  · simp [leBytes]
  · intro i h1 h2
    cases i with
    | zero => simp [leBytes]
    | succ i => simp [leBytes, Nat.pow_succ, Nat.div_div_eq_div_mul, Nat.mul_comm]
theorem leVal_leBytes (n v : Nat) (h : v < 256 ^ n) : leVal (leBytes n v) = v := by
  induction n generalizing v with
  | zero => simp at h; subst h; rfl
  | succ n ih =>
    rw [leBytes_succ, leVal_cons, ih (v / 256) (by rw [Nat.pow_succ] at h; exact Nat.div_lt_of_lt_mul (by omega))]
    simp only [UInt8.toNat_ofNat']
    omega
theorem beVal_beBytes (n v : Nat) (h : v < 256 ^ n) : beVal (beBytes n v) = v := by
  rw [beBytes_rev]
  exact leVal_leBytes n v h

theorem size_pick (t : Int) : ∃ kk : Nat, kk < 4 ∧ (IntKind.u64.wrap t).tmod 4 = (kk : Int) := by
  rw [IntKind.wrap_u64, tmod_of_emod]
  exact ⟨(t % 18446744073709551616 % 4).toNat, by omega, by omega⟩
theorem size_cell (w : World) (e : TypeId) (kk : Nat) (h : kk < 4) : ∃ n : Nat, okSize n = true ∧ 1 ≤ n ∧ n ≤ 8 ∧
    (w.alloc (.cells #[.int .i64 1, .int .i64 2, .int .i64 4, .int .i64 8] e)).cell? ⟨w.heap.size, kk, none⟩ = some (.int .i64 (n : Int)) := by
  have hb := Blk.new w e #[.int .i64 1, .int .i64 2, .int .i64 4, .int .i64 8]
  match kk, h with
  | 0, _ => exact ⟨1, rfl, by omega, by omega, hb.cell 0⟩
  | 1, _ => exact ⟨2, rfl, by omega, by omega, hb.cell 1⟩
  | 2, _ => exact ⟨4, rfl, by omega, by omega, hb.cell 2⟩
  | 3, _ => exact ⟨8, rfl, by omega, by omega, hb.cell 3⟩

theorem mask_val (x n : Nat) (h : n < 8) (hx : x < 18446744073709551616) :
    bits .and .u64 (x : Int) (IntKind.u64.wrap (IntKind.u64.wrap (2 ^ (8 * n)) - 1)) = ((x % 256 ^ n : Nat) : Int) := by
  have h1 : 256 ^ n ≤ 256 ^ 7 := Nat.pow_le_pow_right (by decide) (by omega)
  have h2 : 256 ^ 7 = 72057594037927936 := by decide
  have h3 : 0 < 256 ^ n := Nat.pow_pos (by decide)
  have h4 : 256 ^ n = 2 ^ (8 * n) := by rw [Nat.pow_mul]
  have e : IntKind.u64.wrap (IntKind.u64.wrap (2 ^ (8 * n)) - 1) = ((256 ^ n - 1 : Nat) : Int) := by
    rw [two_pow_8, IntKind.wrap_u64, IntKind.wrap_u64]
    omega
  rw [e, u64_and_nat x _ hx (by omega), h4, Nat.and_two_pow_sub_one_eq_mod]

set_option maxRecDepth 100000 in
set_option maxHeartbeats 1000000 in
theorem numBack_walk (v : Value) (b : List UInt8) (x : Nat) (t : Int) (w : World) (h : Bs w v b) (hl : b.length ≤ 140737488351232) (hx : x < 18446744073709551616) :
    Calls Try.prog 8 #[v, .int .u64 x, .int .i64 t] w fun e w' => e = .returned (.bool true) ∧ Below w.heap.size w w' := by
  have Hb := hid h
  obtain ⟨A, cap, rfl, k1, k2, _⟩ := h.cells
  clear h
  obtain ⟨kk, hk4, hkk⟩ := size_pick t
  go_enter Try.func8, Try.ntmps8
  go_upto_if 28 with ((go_at_call 9; refine (known_any _).mono ?_; rintro e w' ⟨rfl, hb2⟩); have Hb3 := hid hb2; have Hb4 := hid (Hb.out.below hb2); clear hb2; obtain ⟨n, hn0, hn1, hn8, hcell⟩ := size_cell w' 3 kk hk4)
  have Hn0 := hid hn0
  clear hn0 hcell
  go_cut [1] from 27 to 34 (fun s w2' => w2' = w'.alloc (.cells #[.int .i64 1, .int .i64 2, .int .i64 4, .int .i64 8] 3) ∧ ∃ y : Nat, y < 256 ^ n ∧ y < 18446744073709551616 ∧ s = .int .u64 y)
  case first =>
    by_cases h8 : n < 8
    · go_wp2_with fail
      go_meet
      case rel => exact ⟨rfl, x % 256 ^ n, Nat.mod_lt _ (Nat.pow_pos (by decide)), Nat.lt_of_le_of_lt (Nat.mod_le _ _) hx, val_int (mask_val x n h8 hx)⟩
    · obtain rfl : n = 8 := by omega
      go_wp2_with fail
      go_meet
      case rel => exact ⟨rfl, x, by omega, hx, rfl⟩
  case rest =>
  obtain ⟨rfl, y, hy, hy64, rfl⟩ := hcut
  have hfit : fitsOne n y = true := by
    have : y / 256 ^ n = 0 := Nat.div_eq_of_lt hy
    simp [fitsOne, this]
  have Hle := hid (show putOf leBytes b n [y, y] = (b ++ (leBytes n y ++ leBytes n y), 0) by simp [putOf, fitsB, Hn0.out, hfit])
  have Hbe := hid (show putOf beBytes b n [y] = (b ++ beBytes n y, 0) by simp [putOf, fitsB, Hn0.out, hfit])
  clear hfit
  obtain ⟨X, hX⟩ : ∃ X, X = b ++ (leBytes n y ++ leBytes n y) := ⟨_, rfl⟩
  obtain ⟨Y, hY⟩ : ∃ Y, Y = b ++ beBytes n y := ⟨_, rfl⟩
  have hXl : X.length = b.length + 2 * n := by rw [hX]; simp [leBytes]; omega
  have hYl : Y.length = b.length + n := by rw [hY]; simp [beBytes]
  rw [← hX] at Hle
  rw [← hY] at Hbe
  have HX := hid hX; have HY := hid hY; have HXl := hid hXl; have HYl := hid hYl
  clear hX hY hXl hYl
  have Hb5 := hid (below_alloc' Hb3.out (.cells #[.int .i64 1, .int .i64 2, .int .i64 4, .int .i64 8] 3))
  have Hb6 := hid (Hb4.out.alloc (.cells #[.int .i64 1, .int .i64 2, .int .i64 4, .int .i64 8] 3))
  generalize w'.alloc (.cells #[.int .i64 1, .int .i64 2, .int .i64 4, .int .i64 8] 3) = w1 at *
  clear Hb3 Hb4
  go_wp2_with (first
    | ((go_at_call 17; refine (putLe_any _ b _ _ [y, y] _ (Hb6.out.alloc _) (u64_lit #[.int .u64 (y : Int), .int .u64 (y : Int)] [y, y] _ _ rfl rfl (by simp) (by simp) (by simp; omega)) (by simp; omega)).mono ?_; rintro e w' ⟨v1, rfl, hown1, hb⟩); rw [Hle.out] at hown1 ⊢; have Hx := hid hown1.bs; have Hb7 := hid ((below_alloc' Hb5.out _).trans (hb.mono (by have := Hb5.out.size; simp; omega))); have Hb8 := hid ((Hb6.out.alloc _).below hb); clear hown1 hb; obtain ⟨Ax, cx, rfl, x1, x2, x3⟩ := Hx.out.cells; have X3 := hid x3; clear x3)
    | ((go_at_call 16; refine (putBe_any _ b _ _ [y] _ (Hb8.out.alloc _) (u64_lit #[.int .u64 (y : Int)] [y] _ _ rfl rfl (by simp) (by simp) (by simp; omega)) (by simp; omega)).mono ?_; rintro e w' ⟨v2, rfl, hown2, hb⟩); rw [Hbe.out] at hown2 ⊢; have Hy := hid hown2.bs; have Hx2 := hid ((Hx.out.alloc _).below hb); have Hb9 := hid ((below_alloc' Hb7.out _).trans (hb.mono (by have := Hb7.out.size; simp; omega))); have Hb10 := hid ((Hb8.out.alloc _).below hb); clear hown2 hb; obtain ⟨Ay, cy, rfl, y1, y2, y3⟩ := Hy.out.cells; have Y3 := hid y3; clear y3)
    | fail)
  have hXb := HXl.out
  have hYb := HYl.out
  obtain ⟨ii, hii, hz, hs, hby⟩ := info_parts u8info
  have c1 := run_cut_to (P := Try.prog) (T := 24) Try.underlying24 hii Ax X.length cx .i64 b.length b.length rfl (by omega)
  rw [hs] at c1
  clear hii hz hs hby
  have hcutX := Bs.cut (l := 0) (k := b.length) Hx2.out (by omega)
  rw [show ((X.drop 0).take b.length) = b from by rw [HX.out]; simp, Nat.sub_zero] at hcutX
  have s1 := fun k => run_str Try.underlying24 Try.underlying5 Try.underlying9 (hcutX.drewN k)
  have s2 := fun k => run_str Try.underlying24 Try.underlying5 Try.underlying9 (Hb10.out.drewN k)
  have e1 : ((X.length : Int) != (b.length : Int) + 2 * (n : Int)) = false := by rw [bne_eq_false_iff_eq]; omega
  have e2 : ((Y.length : Int) != (b.length : Int) + (n : Int)) = false := by rw [bne_eq_false_iff_eq]; omega
  have g1 : IntKind.i64.wrap (2 * (n : Int)) = 2 * (n : Int) := IntWalk.i64_in _ (by omega)
  have g2 : IntKind.i64.wrap ((b.length : Int) + 2 * (n : Int)) = (b.length : Int) + 2 * (n : Int) := IntWalk.i64_in _ (by omega)
  have g3 : IntKind.i64.wrap ((b.length : Int) + (n : Int)) = (b.length : Int) + (n : Int) := IntWalk.i64_in _ (by omega)
  have e3 : (X.length : Int) = (b.length : Int) + 2 * (n : Int) := by omega
  have e4 : (Y.length : Int) = (b.length : Int) + (n : Int) := by omega
  clear hXb hYb e1 e2
  go_quiet (fail)
  clear g1 g2 g3 e3 e4 s1 s2 c1
  rcases (Bs.open Hx2.out).2.2.2 with h0 | ⟨bx, ox, rfl, hcx⟩
  · exfalso; have := HXl.out; omega
  rcases (Bs.open Hy.out).2.2.2 with h0 | ⟨by_, oy, rfl, hcy⟩
  · exfalso; have := HYl.out; omega
  have Hcx := hid hcx; have Hcy := hid hcy
  clear hcx hcy
  go_wp2_with fail
  go_loopw [12] (fun i w2 => ∃ j m : Nat, j ≤ n ∧ i = .int .i64 j ∧ w2 = w'.drewN m) (fun i _ => n - (intOf i).toNat)
  case atStart => exact ⟨0, nq, Nat.zero_le _, rfl, rfl⟩
  case round =>
    obtain ⟨j, m, hj, rfl, rfl⟩ := hrel
    by_cases hjt : j < n
    · obtain ⟨q, hq⟩ : ∃ q, n = q + 1 + j := ⟨n - 1 - j, by omega⟩
      have hXl := HXl.out
      have hYl := HYl.out
      have c1 : w'.cell? ⟨bx, ox + (b.length + j), none⟩ = some (.int .u8 ((UInt8.ofNat (y / 256 ^ j)).toNat : Int)) := by
        have h1 := Hcx.out (b.length + j) (by omega)
        have h2 : X[b.length + j]'(by omega) = UInt8.ofNat (y / 256 ^ j) := by
          have := HX.out
          subst this
          rw [List.getElem_append_right (by omega), List.getElem_append_left (by simp [leBytes]; omega)]
          simp [leBytes]
        rw [h2] at h1
        exact h1
      have c2 : w'.cell? ⟨by_, oy + (b.length + q), none⟩ = some (.int .u8 ((UInt8.ofNat (y / 256 ^ j)).toNat : Int)) := by
        have h1 := Hcy.out (b.length + q) (by omega)
        have h2 : Y[b.length + q]'(by omega) = UInt8.ofNat (y / 256 ^ j) := by
          have := HY.out
          subst this
          rw [List.getElem_append_right (by omega)]
          have : n - 1 - q = j := by omega
          simp [beBytes, this]
        rw [h2] at h1
        exact h1
      generalize (UInt8.ofNat (y / 256 ^ j)).toNat = z at *
      have g1 : IntKind.i64.wrap ((b.length : Int) + (j : Int)) = (b.length : Int) + (j : Int) := IntWalk.i64_in _ (by omega)
      have g2 : IntKind.i64.wrap ((b.length : Int) + (n : Int)) = (b.length : Int) + (n : Int) := IntWalk.i64_in _ (by omega)
      have g3 : IntKind.i64.wrap ((b.length : Int) + (n : Int) - 1) = (b.length : Int) + (n : Int) - 1 := IntWalk.i64_in _ (by omega)
      have g4 : IntKind.i64.wrap ((b.length : Int) + (n : Int) - 1 - (j : Int)) = (b.length : Int) + (q : Int) := by rw [show (b.length : Int) + (n : Int) - 1 - (j : Int) = (b.length : Int) + (q : Int) from by omega]; exact IntWalk.i64_in _ (by omega)
      have i1 : (0 : Int) ≤ (b.length : Int) + (j : Int) := by omega
      have i2 : (b.length : Int) + (j : Int) < (X.length : Int) := by omega
      have i3 : (0 : Int) ≤ (b.length : Int) + (q : Int) := by omega
      have i4 : (b.length : Int) + (q : Int) < (Y.length : Int) := by omega
      have i5 : ((b.length : Int) + (j : Int)).toNat = b.length + j := by omega
      have i6 : ((b.length : Int) + (q : Int)).toNat = b.length + q := by omega
      have Hq := hid hq
      clear hq hXl hYl
      go_wp2_with fail
      go_quiet (fail)
      clear g1 g2 g3 g4 i1 i2 i3 i4 i5 i6
      go_wp2_with fail
      go_roundw
      case rel => exact ⟨j + 1, m + nq, by omega, by go_num, rfl⟩
      case measure => simp [intOf]; omega
    · have Q1 := hid (show cutOf X ((b.length : Int) + (n : Int)) (n : Int) = (leBytes n y, 0) by
        have h1 := HXl.out
        simp only [cutOf, Hn0.out]
        rw [if_pos trivial, if_neg (by omega), show ((b.length : Int) + (n : Int)).toNat = b.length + n from by omega, Int.toNat_natCast, HX.out, ← List.drop_drop, List.drop_left]
        congr 1
        rw [show (leBytes n y ++ leBytes n y).drop n = leBytes n y from by
          have := List.drop_left (l₁ := leBytes n y) (l₂ := leBytes n y)
          rwa [leBytes_len] at this]
        exact List.take_of_length_le (by rw [leBytes_len]; omega))
      have Q2 := hid (show cutOf Y (b.length : Int) (n : Int) = (beBytes n y, 0) by
        have h1 := HYl.out
        simp only [cutOf, Hn0.out]
        rw [if_pos trivial, if_neg (by omega), Int.toNat_natCast, Int.toNat_natCast, HY.out, List.drop_left]
        congr 1
        exact List.take_of_length_le (by rw [beBytes_len]; omega))
      have Q3 := hid (show cutOf Y ((b.length : Int) + 1) (n : Int) = ([], 11) by
        have h1 := HYl.out
        simp only [cutOf, Hn0.out]
        rw [if_pos trivial, if_pos (by omega)])
      have R1 := hid (leVal_leBytes n y hy)
      have R2 := hid (beVal_beBytes n y hy)
      have Hb11 := hid (below_drewN Hb9.out m)
      go_wp2_with fail
      refine (le_any _ X _ _ _ (Hx2.out.drewN m) (by omega) (by omega)).mono ?_
      rintro e w3 ⟨rfl, rfl⟩
      rw [Q1.out]
      simp only [R1.out]
      go_wp2_with fail
      refine (be_any _ Y _ _ _ (Hy.out.drewN m) (by omega) (by omega)).mono ?_
      rintro e w3 ⟨rfl, rfl⟩
      rw [Q2.out]
      simp only [R2.out]
      go_wp2_with fail
      refine (be_any _ Y _ _ _ (Hy.out.drewN m) (by omega) (by omega)).mono ?_
      rintro e w3 ⟨rfl, rfl⟩
      rw [Q3.out]
      go_wp2_with fail
      go_ret
      exact ⟨rfl, Hb11.out⟩
end Go.Proofs.Ytgmeogcgcabjoaa
