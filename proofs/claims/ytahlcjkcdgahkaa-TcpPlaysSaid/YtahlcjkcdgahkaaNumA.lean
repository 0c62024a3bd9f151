/- Contracts of num: Inet, Crc, size, cut, Le, Be. -/
import Derived.Test.YtahlcjkcdgahkaaNumSpec
import Derived.Test.YtahlcjkcdgahkaaProg
namespace Go.Proofs.Ytahlcjkcdgahkaa
open Go Go.RowKit
set_option maxRecDepth 100000
theorem inet_any (v : Value) (rows : List (List UInt8)) (w : World) (h : Rows8 w v rows) (hl : rows.flatten.length ≤ 1099511627776) :
    Calls Try.prog 72 #[v] w fun e w' => e = .returned (.int .u16 (inet rows.flatten : Int)) ∧ w = w' := by
  obtain ⟨A, cap, rfl, h1, h2, hrow⟩ := h.cells
  clear h
  have Hrow := hid hrow; clear hrow
  have hfin : ∀ k, inetAcc false 0 (rows.take k).flatten ≤ 65280 * 1099511627776 := by
    intro k
    have h1 := inetAcc_le false 0 (rows.take k).flatten
    have h2 := flatten_take_le rows k
    omega
  have Hfin := hid hfin; clear hfin
  go_enter Try.func72, Try.ntmps72
  go_wp2
  go_loop [3, 4, 11] (fun s od i => ∃ k : Nat, k ≤ rows.length ∧ i = .int .i64 k ∧ s = .int .u64 (inetAcc false 0 (rows.take k).flatten) ∧ od = .bool (inetOdd false (rows.take k).flatten)) (fun _ _ i => rows.length - (intOf i).toNat)
  case atStart => exact ⟨0, Nat.zero_le _, rfl, rfl, rfl⟩
  case round =>
    obtain ⟨k, hk, rfl, rfl, rfl⟩ := hrel
    by_cases hlt : k < rows.length
    · obtain ⟨b, off, x, rfl, hcell, hbs⟩ := Hrow.out k hlt
      obtain ⟨A1, cap1, rfl, k1, k2, k3⟩ := hbs.cells
      clear hbs
      have K3 := hid k3; clear k3
      have hts : (rows.take (k + 1)).flatten = (rows.take k).flatten ++ rows[k] := flatten_snoc rows k hlt
      have hS1 : inetAcc false 0 (rows.take (k + 1)).flatten = inetAcc (inetOdd false (rows.take k).flatten) (inetAcc false 0 (rows.take k).flatten) rows[k] := by rw [hts, inetAcc_append]
      have hD1 : inetOdd false (rows.take (k + 1)).flatten = inetOdd (inetOdd false (rows.take k).flatten) rows[k] := by rw [hts, inetOdd_append]
      have hB : ∀ j, inetAcc (inetOdd false (rows.take k).flatten) (inetAcc false 0 (rows.take k).flatten) (rows[k].take j) ≤ 65280 * 1099511627776 + 65280 * 1099511627776 := by
        intro j
        have h1 := inetAcc_le (inetOdd false (rows.take k).flatten) (inetAcc false 0 (rows.take k).flatten) (rows[k].take j)
        have h2 := Hfin.out k
        have h3 := row_le_flatten rows k hlt
        have h4 : (rows[k].take j).length ≤ rows[k].length := by simp; omega
        omega
      have HS1 := hid hS1; have HD1 := hid hD1; have HB := hid hB
      clear hts hS1 hD1 hB
      generalize inetAcc false 0 (rows.take k).flatten = S at *
      generalize inetOdd false (rows.take k).flatten = D at *
      go_wp2
      go_loop [3, 4, 17] (fun s od i => ∃ j : Nat, j ≤ rows[k].length ∧ i = .int .i64 j ∧ s = .int .u64 (inetAcc D S (rows[k].take j)) ∧ od = .bool (inetOdd D (rows[k].take j))) (fun _ _ i => rows[k].length - (intOf i).toNat)
      case atStart => exact ⟨0, Nat.zero_le _, rfl, rfl, rfl⟩
      case round =>
        obtain ⟨j, hj, rfl, rfl, rfl⟩ := hrel
        by_cases hjt : j < rows[k].length
        · obtain ⟨b1, off1, rfl, hcell1⟩ := K3.out j hjt
          have hb := rows[k][j].toNat_lt
          have hS2 : inetAcc D S (rows[k].take (j + 1)) = inetAcc (inetOdd D (rows[k].take j)) (inetAcc D S (rows[k].take j)) [rows[k][j]] := by rw [take_snoc _ _ hjt, inetAcc_append]
          have hD2 : inetOdd D (rows[k].take (j + 1)) = !(inetOdd D (rows[k].take j)) := by rw [take_snoc _ _ hjt, inetOdd_append]; simp [inetOdd]
          have hB2 := HB.out j
          have HS2 := hid hS2; have HD2 := hid hD2
          clear hS2 hD2
          generalize inetAcc D S (rows[k].take j) = S2 at *
          generalize inetOdd D (rows[k].take j) = D2 at *
          cases D2
          all_goals
            go_wp2
            go_round
            case rel => exact ⟨j + 1, by omega, by go_num, by rw [HS2.out]; simp [inetAcc], by rw [HD2.out]; rfl⟩
            case measure => simp [intOf]; omega
        · go_wp2
          go_round
          case rel =>
            have : rows[k].take j = rows[k] := List.take_of_length_le (by omega)
            exact ⟨k + 1, by omega, by go_num, by rw [HS1.out, this], by rw [HD1.out, this]⟩
          case measure => simp [intOf]; omega
    · have hall : rows.take k = rows := List.take_of_length_le (by omega)
      have hb0 := Hfin.out k
      rw [hall] at hb0 ⊢
      have hin : inet rows.flatten = 65535 - fold16 (inetAcc false 0 rows.flatten) := rfl
      have Hin := hid hin; clear hin hall
      generalize inetAcc false 0 rows.flatten = S0 at *
      go_wp2
      go_loop [3] (fun s => ∃ S : Nat, S ≤ 65280 * 1099511627776 ∧ fold16 S = fold16 S0 ∧ s = .int .u64 S) (fun s => (intOf s).toNat)
      case atStart => exact ⟨S0, hb0, rfl, rfl⟩
      case round =>
        obtain ⟨S, hS, hf, rfl⟩ := hrel
        have Hf := hid hf; clear hf
        by_cases hf : 65535 < S
        · have hand : bits .and .u64 (S : Int) 65535 = ((S % 65536 : Nat) : Int) := by
            rw [show (65535 : Int) = ((65535 : Nat) : Int) from rfl, u64_and_nat S 65535 (by omega) (by omega), nat_mask16]
          go_wp2
          go_round
          case rel => exact ⟨S % 65536 + S / 65536, by omega, by rw [← fold16_big hf]; exact Hf.out, by go_num⟩
          case measure => simp [intOf]; omega
        · have hfs := fold16_small (n := S) (by omega)
          have hnot := not_u16 S (by omega)
          go_wp2
          go_ret
          exact ⟨ret_int (by rw [Hin.out, ← Hf.out, hfs]), rfl⟩
theorem size_any (n : Int) (w : World) : Calls Try.prog 77 #[.int .i64 n] w fun e w' => e = .returned (.bool (okSize n)) ∧ w = w' := by
  unfold okSize
  by_cases h1 : n = 1
  · subst h1; go_enter Try.func77, Try.ntmps77; go_wp2; go_ret; exact ⟨rfl, rfl⟩
  by_cases h2 : n = 2
  · subst h2; go_enter Try.func77, Try.ntmps77; go_wp2; go_ret; exact ⟨rfl, rfl⟩
  by_cases h4 : n = 4
  · subst h4; go_enter Try.func77, Try.ntmps77; go_wp2; go_ret; exact ⟨rfl, rfl⟩
  by_cases h8 : n = 8
  · subst h8; go_enter Try.func77, Try.ntmps77; go_wp2; go_ret; exact ⟨rfl, rfl⟩
  have e1 : (n == 1) = false := by simp [h1]
  have e2 : (n == 2) = false := by simp [h2]
  have e4 : (n == 4) = false := by simp [h4]
  have e8 : (n == 8) = false := by simp [h8]
  go_enter Try.func77, Try.ntmps77
  go_wp2
  go_ret
  exact ⟨ret_bool (by rw [e1, e2, e4, e8]; rfl), rfl⟩

/-- []byte and byte in the table -/
theorem u8info : (Try.prog.info? 5).map (fun i => (i.zero, i.size, i.bytes)) = some (some (.int .u8 0), 1, 1) := by kernel_rfl
theorem u8ok : ElemOk Try.prog 28 5 (.int .u8 0) 1 1 := by
  obtain ⟨i, hi, hz, hs, hb⟩ := info_parts u8info
  exact ⟨Try.underlying28, ⟨i, hi, hz, hs, hb⟩, rfl, by decide, by decide⟩

theorem cut_any (v : Value) (b : List UInt8) (at_ n : Int) (w : World) (h : Bs w v b) (h1 : -9223372036854775808 ≤ at_) (h2 : at_ ≤ 9223372036854775807) :
    Calls Try.prog 78 #[v, .int .i64 at_, .int .i64 n] w fun e w' => ∃ v', e = .returned (.tuple #[v', .int .i64 (cutOf b at_ n).2]) ∧ Bs w v' (cutOf b at_ n).1 ∧ w = w' := by
  obtain ⟨A, cap, rfl, k1, k2, _⟩ := h.cells
  have Hb := hid h; clear h
  obtain ⟨i, hi, hz, hs, hb⟩ := info_parts u8info
  by_cases hn : okSize n = true
  · have hsz := okSize_le hn
    by_cases hbad : at_ < 0 ∨ at_ > (b.length : Int) - n
    · have hr : cutOf b at_ n = ([], 11) := by simp [cutOf, hn, hbad]
      have Hr := hid hr; clear hr
      have Hn := hid hn; clear hn
      rcases hbad with hbad | hbad
      · have hd : decide (at_ < 0) = true := by simpa using hbad
        go_enter Try.func78, Try.ntmps78
        go_wp2_with (go_at_call 77; refine (size_any _ _).mono ?_; rintro e w' ⟨rfl, rfl⟩; rw [Hn.out])
        go_ret2
        exact ⟨_, by rw [Hr.out]; rfl, by rw [Hr.out]; exact Bs.nil _, rfl⟩
      · by_cases hneg : at_ < 0
        · have hd : decide (at_ < 0) = true := by simpa using hneg
          go_enter Try.func78, Try.ntmps78
          go_wp2_with (go_at_call 77; refine (size_any _ _).mono ?_; rintro e w' ⟨rfl, rfl⟩; rw [Hn.out])
          go_ret2
          exact ⟨_, by rw [Hr.out]; rfl, by rw [Hr.out]; exact Bs.nil _, rfl⟩
        · have hd : decide (at_ < 0) = false := by simpa using hneg
          go_enter Try.func78, Try.ntmps78
          go_wp2_with (go_at_call 77; refine (size_any _ _).mono ?_; rintro e w' ⟨rfl, rfl⟩; rw [Hn.out])
          go_ret2
          exact ⟨_, by rw [Hr.out]; rfl, by rw [Hr.out]; exact Bs.nil _, rfl⟩
    · have hr : cutOf b at_ n = ((b.drop at_.toNat).take n.toNat, 0) := by simp only [cutOf, hn, if_neg hbad]; rfl
      have Hr := hid hr; clear hr
      have Hn := hid hn; clear hn
      have hd : decide (at_ < 0) = false := by simp; omega
      have hcut := run_cut (P := Try.prog) (T := 28) Try.underlying28 hi A b.length cap .i64 .i64 at_ (at_ + n) at_.toNat n.toNat (by omega) (by omega) (by omega)
      go_enter Try.func78, Try.ntmps78
      go_wp2_with (go_at_call 77; refine (size_any _ _).mono ?_; rintro e w' ⟨rfl, rfl⟩; rw [Hn.out])
      go_ret2

      exact ⟨_, by rw [Hr.out]; rfl, by rw [Hr.out]; exact hs ▸ Bs.cut Hb.out (by omega), rfl⟩
  · have hr : cutOf b at_ n = ([], 1) := by simp [cutOf, hn]
    have hn' : okSize n = false := by simpa using hn
    have Hn := hid hn'; clear hn hn'
    have Hr := hid hr; clear hr
    go_enter Try.func78, Try.ntmps78
    go_wp2_with (go_at_call 77; refine (size_any _ _).mono ?_; rintro e w' ⟨rfl, rfl⟩; rw [Hn.out])
    go_ret2
    exact ⟨_, by rw [Hr.out]; rfl, by rw [Hr.out]; exact Bs.nil _, rfl⟩
end Go.Proofs.Ytahlcjkcdgahkaa
