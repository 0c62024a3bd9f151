/- Contracts of num: Be, Le, fits, PutLe, PutBe. -/
import Derived.Test.YtgiegiobigdplaaNumA
namespace Go.Proofs.Ytgiegiobigdplaa
open Go Go.RowKit
set_option maxRecDepth 100000

theorem ret_two {k k' : IntKind} {a b c d : Int} (h : a = b) (h' : c = d) : Ending.returned (.tuple #[.int k a, .int k' c]) = Ending.returned (.tuple #[.int k b, .int k' d]) := by rw [h, h']

theorem le_any (v : Value) (b : List UInt8) (p n : Int) (w : World) (h : Bs w v b) (h1 : -9223372036854775808 ≤ p) (h2 : p ≤ 9223372036854775807) :
    Calls Try.prog 65 #[v, .int .i64 p, .int .i64 n] w fun e w' => e = .returned (.tuple #[.int .u64 (leVal (cutOf b p n).1 : Int), .int .i64 (cutOf b p n).2]) ∧ w = w' := by
  have Hb := hid h; clear h
  have hlen := cutOf_len b p n
  obtain ⟨row, code, hrc⟩ : ∃ row code, cutOf b p n = (row, code) := ⟨_, _, rfl⟩
  have hq := cut_any v b p n w Hb.out h1 h2
  rw [hrc] at hq hlen ⊢
  have Hq := hid hq; clear hq hrc
  simp only at hlen ⊢
  go_enter Try.func65, Try.ntmps65
  go_wp2_with ((go_at_call 68; refine (Hq.out).mono ?_; rintro e w' ⟨v1, rfl, hv1, rfl⟩); obtain ⟨A1, cap1, rfl, k1, k2, k3⟩ := hv1.cells; have K3 := hid k3; clear k3 hv1)
  go_loop [10, 11] (fun s i => ∃ j : Nat, j ≤ row.length ∧ i = .int .i64 ((row.length : Int) - 1 - j) ∧ s = .int .u64 (leVal (row.drop (row.length - j)))) (fun _ i => (intOf i + 1).toNat)
  case atStart => exact ⟨0, Nat.zero_le _, by simp, by simp [leVal, beVal]⟩
  case round =>
    obtain ⟨j, hj, rfl, rfl⟩ := hrel
    by_cases hjt : j < row.length
    · obtain ⟨m, hm⟩ : ∃ m : Nat, row.length = m + 1 + j := ⟨row.length - 1 - j, by omega⟩
      have hm1 : m < row.length := by omega
      obtain ⟨b1, off1, rfl, hcell1⟩ := K3.out m hm1
      have hb := row[m].toNat_lt
      have hS : leVal (row.drop (row.length - j)) ≤ 72057594037927935 := leVal_small (by simp; omega)
      have hor := shl_or _ row[m].toNat hS hb
      have HS := hid (show leVal (row.drop (row.length - (j + 1))) = leVal (row.drop (row.length - j)) * 256 + row[m].toNat by
        rw [show row.length - (j + 1) = m from by omega, show row.length - j = m + 1 from by omega, List.drop_eq_getElem_cons hm1, leVal_cons])
      generalize leVal (row.drop (row.length - j)) = S at *
      have e1 : ((row.length : Int) - 1 - (j : Int)) = (m : Int) := by omega
      rw [e1]
      have Hm := hid hm; clear hm e1
      go_wp2
      go_round
      case rel => exact ⟨j + 1, by omega, val_int (by have := Hm.out; omega), by rw [HS.out]; go_num⟩
      case measure => simp [intOf]
    · have e1 : ((row.length : Int) - 1 - (j : Int)) = -1 := by omega
      rw [e1]
      have e2 : row.drop (row.length - j) = row := by rw [show row.length - j = 0 from by omega]; rfl
      rw [e2]
      clear e1 e2
      go_wp2
      go_ret2
      exact ⟨rfl, rfl⟩
theorem fits_any (n : Int) (v : Value) (l : List Nat) (w : World) (h : U64s w v l) :
    Calls Try.prog 69 #[.int .i64 n, v] w fun e w' => e = .returned (.bool (fitsB n l)) ∧ w = w' := by
  obtain ⟨A, cap, rfl, k1, k2, k3⟩ := h.cells
  have K3 := hid k3; clear k3 h
  by_cases hn : okSize n = true
  · have Hn := hid hn
    simp only [okSize, Bool.or_eq_true, beq_iff_eq] at hn
    have hfin : fitsB n l = l.all (fitsOne n.toNat) := by simp [fitsB, Hn.out]
    rw [hfin]
    clear hfin
    rcases hn with ((rfl | rfl) | rfl) | rfl
    · go_enter Try.func69, Try.ntmps69
      go_wp2_with ((go_at_call 71; refine (size_any _ _).mono ?_; rintro e w' ⟨rfl, rfl⟩); rw [Hn.out])
      go_loop [6, 12] (fun _ i => ∃ j : Nat, j ≤ l.length ∧ (l.take j).all (fitsOne 1) = true ∧ i = .int .i64 j) (fun _ i => l.length - (intOf i).toNat)
      case atStart => exact ⟨0, Nat.zero_le _, rfl, rfl⟩
      case round =>
        obtain ⟨j, hj, hall, rfl⟩ := hrel
        have Hall := hid hall; clear hall
        by_cases hjt : j < l.length
        · obtain ⟨b1, off1, rfl, hcell1, hlt⟩ := K3.out j hjt
          have hd0 := fits_dec 1 l[j] (by decide)
          cases hf : fitsOne 1 l[j]
          · rw [hf] at hd0
            have hd : ((l[j] : Int) / 256 != 0) = true := hd0
            have Hf := hid hf; clear hf hd0
            go_wp2
            go_ret
            exact ⟨ret_bool (all_no hjt Hf.out).symm, rfl⟩
          · rw [hf] at hd0
            have hd : ((l[j] : Int) / 256 != 0) = false := hd0
            have Hf := hid hf; clear hf hd0
            go_wp2
            go_round
            case rel => exact ⟨j + 1, by omega, all_snoc hjt Hall.out Hf.out, by go_num⟩
            case measure => simp [intOf]; omega
        · go_wp2
          go_ret
          exact ⟨ret_bool (by have := Hall.out; rw [List.take_of_length_le (by omega)] at this; exact this.symm), rfl⟩
    · go_enter Try.func69, Try.ntmps69
      go_wp2_with ((go_at_call 71; refine (size_any _ _).mono ?_; rintro e w' ⟨rfl, rfl⟩); rw [Hn.out])
      go_loop [6, 12] (fun _ i => ∃ j : Nat, j ≤ l.length ∧ (l.take j).all (fitsOne 2) = true ∧ i = .int .i64 j) (fun _ i => l.length - (intOf i).toNat)
      case atStart => exact ⟨0, Nat.zero_le _, rfl, rfl⟩
      case round =>
        obtain ⟨j, hj, hall, rfl⟩ := hrel
        have Hall := hid hall; clear hall
        by_cases hjt : j < l.length
        · obtain ⟨b1, off1, rfl, hcell1, hlt⟩ := K3.out j hjt
          have hd0 := fits_dec 2 l[j] (by decide)
          cases hf : fitsOne 2 l[j]
          · rw [hf] at hd0
            have hd : ((l[j] : Int) / 65536 != 0) = true := hd0
            have Hf := hid hf; clear hf hd0
            go_wp2
            go_ret
            exact ⟨ret_bool (all_no hjt Hf.out).symm, rfl⟩
          · rw [hf] at hd0
            have hd : ((l[j] : Int) / 65536 != 0) = false := hd0
            have Hf := hid hf; clear hf hd0
            go_wp2
            go_round
            case rel => exact ⟨j + 1, by omega, all_snoc hjt Hall.out Hf.out, by go_num⟩
            case measure => simp [intOf]; omega
        · go_wp2
          go_ret
          exact ⟨ret_bool (by have := Hall.out; rw [List.take_of_length_le (by omega)] at this; exact this.symm), rfl⟩
    · go_enter Try.func69, Try.ntmps69
      go_wp2_with ((go_at_call 71; refine (size_any _ _).mono ?_; rintro e w' ⟨rfl, rfl⟩); rw [Hn.out])
      go_loop [6, 12] (fun _ i => ∃ j : Nat, j ≤ l.length ∧ (l.take j).all (fitsOne 4) = true ∧ i = .int .i64 j) (fun _ i => l.length - (intOf i).toNat)
      case atStart => exact ⟨0, Nat.zero_le _, rfl, rfl⟩
      case round =>
        obtain ⟨j, hj, hall, rfl⟩ := hrel
        have Hall := hid hall; clear hall
        by_cases hjt : j < l.length
        · obtain ⟨b1, off1, rfl, hcell1, hlt⟩ := K3.out j hjt
          have hd0 := fits_dec 4 l[j] (by decide)
          cases hf : fitsOne 4 l[j]
          · rw [hf] at hd0
            have hd : ((l[j] : Int) / 4294967296 != 0) = true := hd0
            have Hf := hid hf; clear hf hd0
            go_wp2
            go_ret
            exact ⟨ret_bool (all_no hjt Hf.out).symm, rfl⟩
          · rw [hf] at hd0
            have hd : ((l[j] : Int) / 4294967296 != 0) = false := hd0
            have Hf := hid hf; clear hf hd0
            go_wp2
            go_round
            case rel => exact ⟨j + 1, by omega, all_snoc hjt Hall.out Hf.out, by go_num⟩
            case measure => simp [intOf]; omega
        · go_wp2
          go_ret
          exact ⟨ret_bool (by have := Hall.out; rw [List.take_of_length_le (by omega)] at this; exact this.symm), rfl⟩
    · go_enter Try.func69, Try.ntmps69
      go_wp2_with ((go_at_call 71; refine (size_any _ _).mono ?_; rintro e w' ⟨rfl, rfl⟩); rw [Hn.out])
      go_loop [6, 12] (fun _ i => ∃ j : Nat, j ≤ l.length ∧ (l.take j).all (fitsOne 8) = true ∧ i = .int .i64 j) (fun _ i => l.length - (intOf i).toNat)
      case atStart => exact ⟨0, Nat.zero_le _, rfl, rfl⟩
      case round =>
        obtain ⟨j, hj, hall, rfl⟩ := hrel
        have Hall := hid hall; clear hall
        by_cases hjt : j < l.length
        · obtain ⟨b1, off1, rfl, hcell1, hlt⟩ := K3.out j hjt
          go_wp2
          go_round
          case rel => exact ⟨j + 1, by omega, all_snoc hjt Hall.out rfl, by go_num⟩
          case measure => simp [intOf]; omega
        · go_wp2
          go_ret
          exact ⟨ret_bool (by have := Hall.out; rw [List.take_of_length_le (by omega)] at this; exact this.symm), rfl⟩
  · have hn' : okSize n = false := by simpa using hn
    have hfin : fitsB n l = false := by simp [fitsB, hn']
    have Hn := hid hn'; have Hf := hid hfin
    clear hn hn' hfin
    go_enter Try.func69, Try.ntmps69
    go_wp2_with ((go_at_call 71; refine (size_any _ _).mono ?_; rintro e w' ⟨rfl, rfl⟩); rw [Hn.out])
    go_ret
    exact ⟨ret_bool Hf.out.symm, rfl⟩
end Go.Proofs.Ytgiegiobigdplaa
