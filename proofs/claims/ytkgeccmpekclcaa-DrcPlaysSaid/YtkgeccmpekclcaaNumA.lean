/- Contracts of num: Inet, Crc, size, cut, Le, Be. -/
import Derived.Test.YtkgeccmpekclcaaNumSpec
import Derived.Test.YtkgeccmpekclcaaProg
namespace Go.Proofs.Ytkgeccmpekclcaa
open Go Go.RowKit
set_option maxRecDepth 100000
theorem crc_any (v : Value) (rows : List (List UInt8)) (w : World) (h : Rows8 w v rows) :
    Calls Try.prog 23 #[v] w fun e w' => e = .returned (.int .u32 (crc rows.flatten : Int)) ∧ w = w' := by
  obtain ⟨A, cap, rfl, h1, h2, hrow⟩ := h.cells
  clear h
  have Hrow := hid hrow; clear hrow
  go_enter Try.func23, Try.ntmps23
  go_wp2
  go_loop [3, 10] (fun s i => ∃ k : Nat, k ≤ rows.length ∧ i = .int .i64 k ∧ s = .int .u32 (crcAll 4294967295 (rows.take k).flatten)) (fun _ i => rows.length - (intOf i).toNat)
  case atStart => exact ⟨0, Nat.zero_le _, rfl, rfl⟩
  case round =>
    obtain ⟨k, hk, rfl, rfl⟩ := hrel
    have hc := crcAll_lt (c := 4294967295) (rows.take k).flatten (by omega)
    by_cases hlt : k < rows.length
    · obtain ⟨b, off, x, rfl, hcell, hbs⟩ := Hrow.out k hlt
      obtain ⟨A1, cap1, rfl, k1, k2, k3⟩ := hbs.cells
      clear hbs
      have K3 := hid k3; clear k3
      have hS1 : crcAll 4294967295 (rows.take (k + 1)).flatten = crcAll (crcAll 4294967295 (rows.take k).flatten) rows[k] := by rw [flatten_snoc rows k hlt, crcAll_append]
      have HS1 := hid hS1
      clear hS1
      generalize crcAll 4294967295 (rows.take k).flatten = S at *
      go_wp2
      go_loop [3, 16] (fun s i => ∃ j : Nat, j ≤ rows[k].length ∧ i = .int .i64 j ∧ s = .int .u32 (crcAll S (rows[k].take j))) (fun _ i => rows[k].length - (intOf i).toNat)
      case atStart => exact ⟨0, Nat.zero_le _, rfl, rfl⟩
      case round =>
        obtain ⟨j, hj, rfl, rfl⟩ := hrel
        have hc2 := crcAll_lt (rows[k].take j) hc
        by_cases hjt : j < rows[k].length
        · obtain ⟨b1, off1, rfl, hcell1⟩ := K3.out j hjt
          have hb := rows[k][j].toNat_lt
          have hS2 : crcAll S (rows[k].take (j + 1)) = crcByte (crcAll S (rows[k].take j)) rows[k][j] := by rw [take_snoc _ _ hjt, crcAll_append]; rfl
          have HS2 := hid hS2
          clear hS2
          generalize crcAll S (rows[k].take j) = S2 at *
          have hx : bits .xor .u32 (S2 : Int) (rows[k][j].toNat : Int) = ((S2 ^^^ rows[k][j].toNat : Nat) : Int) := u32_xor_nat _ _ hc2 (by omega)
          have hx2 : S2 ^^^ rows[k][j].toNat < 4294967296 := Nat.xor_lt_two_pow (n := 32) hc2 (by omega)
          go_wp2
          go_loop [3, 24] (fun s i => ∃ m : Nat, m ≤ 8 ∧ i = .int .i64 m ∧ s = .int .u32 (crcSteps m (S2 ^^^ rows[k][j].toNat))) (fun _ i => 8 - (intOf i).toNat)
          case atStart => exact ⟨0, Nat.zero_le _, rfl, rfl⟩
          case round =>
            obtain ⟨m, hm, rfl, rfl⟩ := hrel
            have hm1 := crcSteps_lt m hx2
            have hm2 := crcStep_expr _ hm1
            by_cases hmt : m < 8
            · go_wp2
              go_round
              case rel => exact ⟨m + 1, by omega, by go_num, by rfl⟩
              case measure => simp [intOf]; omega
            · obtain rfl : m = 8 := by omega
              go_wp2
              go_round
              case rel => exact ⟨j + 1, by omega, by go_num, by rw [HS2.out]; rfl⟩
              case measure => simp [intOf]; omega
        · go_wp2
          go_round
          case rel =>
            have : rows[k].take j = rows[k] := List.take_of_length_le (by omega)
            exact ⟨k + 1, by omega, by go_num, by rw [HS1.out, this]⟩
          case measure => simp [intOf]; omega
    · have hall : rows.take k = rows := List.take_of_length_le (by omega)
      rw [hall] at hc ⊢
      clear hall
      have hnot := not_u32 _ hc
      go_wp2
      go_ret
      exact ⟨rfl, rfl⟩
theorem size_any (n : Int) (w : World) : Calls Try.prog 28 #[.int .i64 n] w fun e w' => e = .returned (.bool (okSize n)) ∧ w = w' := by
  unfold okSize
  by_cases h1 : n = 1
  · subst h1; go_enter Try.func28, Try.ntmps28; go_wp2; go_ret; exact ⟨rfl, rfl⟩
  by_cases h2 : n = 2
  · subst h2; go_enter Try.func28, Try.ntmps28; go_wp2; go_ret; exact ⟨rfl, rfl⟩
  by_cases h4 : n = 4
  · subst h4; go_enter Try.func28, Try.ntmps28; go_wp2; go_ret; exact ⟨rfl, rfl⟩
  by_cases h8 : n = 8
  · subst h8; go_enter Try.func28, Try.ntmps28; go_wp2; go_ret; exact ⟨rfl, rfl⟩
  have e1 : (n == 1) = false := by simp [h1]
  have e2 : (n == 2) = false := by simp [h2]
  have e4 : (n == 4) = false := by simp [h4]
  have e8 : (n == 8) = false := by simp [h8]
  go_enter Try.func28, Try.ntmps28
  go_wp2
  go_ret
  exact ⟨ret_bool (by rw [e1, e2, e4, e8]; rfl), rfl⟩

/-- []byte and byte in the table -/
theorem u8info : (Try.prog.info? 5).map (fun i => (i.zero, i.size, i.bytes)) = some (some (.int .u8 0), 1, 1) := by kernel_rfl
theorem u8ok : ElemOk Try.prog 34 5 (.int .u8 0) 1 1 := by
  obtain ⟨i, hi, hz, hs, hb⟩ := info_parts u8info
  exact ⟨Try.underlying34, ⟨i, hi, hz, hs, hb⟩, rfl, by decide, by decide⟩

theorem cut_any (v : Value) (b : List UInt8) (at_ n : Int) (w : World) (h : Bs w v b) (h1 : -9223372036854775808 ≤ at_) (h2 : at_ ≤ 9223372036854775807) :
    Calls Try.prog 26 #[v, .int .i64 at_, .int .i64 n] w fun e w' => ∃ v', e = .returned (.tuple #[v', .int .i64 (cutOf b at_ n).2]) ∧ Bs w v' (cutOf b at_ n).1 ∧ w = w' := by
  obtain ⟨A, cap, rfl, k1, k2, _⟩ := h.cells
  have Hb := hid h; clear h
  obtain ⟨i, hi, hz, hs, hb⟩ := info_parts u8info
  by_cases hn : okSize n = true
  · have hsz := okSize_le hn
    by_cases hbad : at_ < 0 ∨ at_ > (b.length : Int) - n
    · have hr : cutOf b at_ n = ([], 11) := by simp [cutOf, hn, hbad]
      have Hr := hid hr; clear hr
      have Hn := hid hn; clear hn
      rcases hbad with hbad | hbad
      · have hd : decide (at_ < 0) = true := by simpa using hbad
        go_enter Try.func26, Try.ntmps26
        go_wp2_with (go_at_call 28; refine (size_any _ _).mono ?_; rintro e w' ⟨rfl, rfl⟩; rw [Hn.out])
        go_ret2
        exact ⟨_, by rw [Hr.out]; rfl, by rw [Hr.out]; exact Bs.nil _, rfl⟩
      · by_cases hneg : at_ < 0
        · have hd : decide (at_ < 0) = true := by simpa using hneg
          go_enter Try.func26, Try.ntmps26
          go_wp2_with (go_at_call 28; refine (size_any _ _).mono ?_; rintro e w' ⟨rfl, rfl⟩; rw [Hn.out])
          go_ret2
          exact ⟨_, by rw [Hr.out]; rfl, by rw [Hr.out]; exact Bs.nil _, rfl⟩
        · have hd : decide (at_ < 0) = false := by simpa using hneg
          go_enter Try.func26, Try.ntmps26
          go_wp2_with (go_at_call 28; refine (size_any _ _).mono ?_; rintro e w' ⟨rfl, rfl⟩; rw [Hn.out])
          go_ret2
          exact ⟨_, by rw [Hr.out]; rfl, by rw [Hr.out]; exact Bs.nil _, rfl⟩
    · have hr : cutOf b at_ n = ((b.drop at_.toNat).take n.toNat, 0) := by simp only [cutOf, hn, if_neg hbad]; rfl
      have Hr := hid hr; clear hr
      have Hn := hid hn; clear hn
      have hd : decide (at_ < 0) = false := by simp; omega
      have hcut := run_cut (P := Try.prog) (T := 34) Try.underlying34 hi A b.length cap .i64 .i64 at_ (at_ + n) at_.toNat n.toNat (by omega) (by omega) (by omega)
      go_enter Try.func26, Try.ntmps26
      go_wp2_with (go_at_call 28; refine (size_any _ _).mono ?_; rintro e w' ⟨rfl, rfl⟩; rw [Hn.out])
      go_ret2

      exact ⟨_, by rw [Hr.out]; rfl, by rw [Hr.out]; exact hs ▸ Bs.cut Hb.out (by omega), rfl⟩
  · have hr : cutOf b at_ n = ([], 1) := by simp [cutOf, hn]
    have hn' : okSize n = false := by simpa using hn
    have Hn := hid hn'; clear hn hn'
    have Hr := hid hr; clear hr
    go_enter Try.func26, Try.ntmps26
    go_wp2_with (go_at_call 28; refine (size_any _ _).mono ?_; rintro e w' ⟨rfl, rfl⟩; rw [Hn.out])
    go_ret2
    exact ⟨_, by rw [Hr.out]; rfl, by rw [Hr.out]; exact Bs.nil _, rfl⟩
end Go.Proofs.Ytkgeccmpekclcaa
