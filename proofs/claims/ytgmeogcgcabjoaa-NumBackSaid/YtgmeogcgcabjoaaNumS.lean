/- Contracts of the document's chapter 1 (undercroftref1): Be, Le, put, PutLe, PutBe. -/
import Derived.Test.YtgmeogcgcabjoaaNumR
namespace Go.Proofs.Ytgmeogcgcabjoaa
open Go Go.RowKit

theorem rbe_any (v : Value) (b : List UInt8) (p n : Int) (w : World) (h : Bs w v b) (h1 : -9223372036854775808 ≤ p) (h2 : p ≤ 9223372036854775807) :
    Calls Try.prog 23 #[v, .int .i64 p, .int .i64 n] w fun e w' => e = .returned (.tuple #[.int .u64 (beVal (cutOf b p n).1 : Int), .int .i64 (cutOf b p n).2]) ∧ w = w' := by
  obtain ⟨A, cap, rfl, k1, k2, k3⟩ := h.cells
  have K3 := hid k3; clear k3 h
  by_cases hn : okSize n = true
  · have hsz := okSize_le hn
    by_cases hbad : p < 0 ∨ p > (b.length : Int) - n
    · have Hr := hid (show cutOf b p n = ([], 11) by simp [cutOf, hn, hbad])
      have Hn := hid hn; clear hn
      by_cases hneg : p < 0
      · have hd : decide (p < 0) = true := by simpa using hneg
        go_enter Try.func23, Try.ntmps23
        go_wp2_with ((go_at_call 27; refine (rsize_any _ _).mono ?_; rintro e w' ⟨rfl, rfl⟩); rw [Hn.out])
        go_ret2
        exact ⟨by rw [Hr.out]; rfl, rfl⟩
      · have hd : decide (p < 0) = false := by simpa using hneg
        by_cases hgt : (b.length : Int) < p
        · have hd2 : decide ((b.length : Int) < p) = true := by simpa using hgt
          go_enter Try.func23, Try.ntmps23
          go_wp2_with ((go_at_call 27; refine (rsize_any _ _).mono ?_; rintro e w' ⟨rfl, rfl⟩); rw [Hn.out])
          go_ret2
          exact ⟨by rw [Hr.out]; rfl, rfl⟩
        · have hd2 : decide ((b.length : Int) < p) = false := by simpa using hgt
          have hd3 : decide ((b.length : Int) - p < n) = true := by simp; omega
          go_enter Try.func23, Try.ntmps23
          go_wp2_with ((go_at_call 27; refine (rsize_any _ _).mono ?_; rintro e w' ⟨rfl, rfl⟩); rw [Hn.out])
          go_ret2
          exact ⟨by rw [Hr.out]; rfl, rfl⟩
    · obtain ⟨q, rfl⟩ : ∃ q : Nat, p = q := ⟨p.toNat, by omega⟩
      obtain ⟨m, rfl⟩ : ∃ m : Nat, n = m := ⟨n.toNat, by omega⟩
      have Hr := hid (show cutOf b q m = ((b.drop q).take m, 0) by simp only [cutOf, hn, if_neg hbad]; rfl)
      have Hn := hid hn; clear hn
      have hd : decide ((q : Int) < 0) = false := by simp
      have hd2 : decide ((b.length : Int) < (q : Int)) = false := by simp; omega
      have hd3 : decide ((b.length : Int) - (q : Int) < (m : Int)) = false := by simp; omega
      have hqm : q + m ≤ b.length := by omega
      clear hbad
      go_enter Try.func23, Try.ntmps23
      go_wp2_with ((go_at_call 27; refine (rsize_any _ _).mono ?_; rintro e w' ⟨rfl, rfl⟩); rw [Hn.out])
      go_loop [8, 9] (fun s i => ∃ j : Nat, j ≤ m ∧ i = .int .i64 j ∧ s = .int .u64 (beVal ((b.drop q).take j))) (fun _ i => m - (intOf i).toNat)
      case atStart => exact ⟨0, Nat.zero_le _, rfl, rfl⟩
      case round =>
        obtain ⟨j, hj, rfl, rfl⟩ := hrel
        by_cases hjt : j < m
        · have hqj : q + j < b.length := by omega
          obtain ⟨b1, off1, rfl, hcell1⟩ := K3.out (q + j) hqj
          have hb := b[q + j].toNat_lt
          have hS : beVal ((b.drop q).take j) ≤ 72057594037927935 := beVal_small (by simp; omega)
          have hor := shl_or _ b[q + j].toNat hS hb
          have HS := hid (show beVal ((b.drop q).take (j + 1)) = beVal ((b.drop q).take j) * 256 + b[q + j].toNat by
            rw [take_snoc _ _ (by simp; omega), beVal_snoc]; simp)
          generalize beVal ((b.drop q).take j) = S at *
          go_wp2
          go_round
          case rel => exact ⟨j + 1, by omega, by go_num, by rw [HS.out]; go_num⟩
          case measure => simp [intOf]; omega
        · obtain rfl : j = m := by omega
          go_wp2
          go_ret2
          exact ⟨by rw [Hr.out]; rfl, rfl⟩
  · have hn' : okSize n = false := by simpa using hn
    have Hr := hid (show cutOf b p n = ([], 1) by simp [cutOf, hn])
    have Hn := hid hn'; clear hn hn'
    go_enter Try.func23, Try.ntmps23
    go_wp2_with ((go_at_call 27; refine (rsize_any _ _).mono ?_; rintro e w' ⟨rfl, rfl⟩); rw [Hn.out])
    go_ret2
    exact ⟨by rw [Hr.out]; rfl, rfl⟩

/-- what Be has read, its lowest byte last: the bytes turned about -/
theorem beVal_div (l : List UInt8) (j : Nat) (h : j ≤ l.length) : beVal l / 256 ^ j = beVal (l.take (l.length - j)) := by
  induction j with
  | zero => simp
  | succ j ih =>
    rw [Nat.pow_succ, ← Nat.div_div_eq_div_mul, ih (by omega)]
    have e : l.length - j = (l.length - (j + 1)) + 1 := by omega
    rw [e, take_snoc _ _ (by omega), beVal_snoc]
    have := (l[l.length - (j + 1)]'(by omega)).toNat_lt
    omega
theorem beVal_mod (l : List UInt8) (j : Nat) (h : j < l.length) : beVal l / 256 ^ j % 256 = (l[l.length - 1 - j]'(by omega)).toNat := by
  rw [beVal_div l j (by omega)]
  have e : l.length - j = (l.length - 1 - j) + 1 := by omega
  rw [e, take_snoc _ _ (by omega), beVal_snoc]
  have := (l[l.length - 1 - j]'(by omega)).toNat_lt
  omega

theorem rle_any (v : Value) (b : List UInt8) (p n : Int) (w : World) (h : Bs w v b) (h1 : -9223372036854775808 ≤ p) (h2 : p ≤ 9223372036854775807) :
    Calls Try.prog 22 #[v, .int .i64 p, .int .i64 n] w fun e w' => e = .returned (.tuple #[.int .u64 (leVal (cutOf b p n).1 : Int), .int .i64 (cutOf b p n).2]) ∧ w = w' := by
  have hq := rbe_any v b p n w h h1 h2
  by_cases hn : okSize n = true
  · have hsz := okSize_le hn
    by_cases hbad : p < 0 ∨ p > (b.length : Int) - n
    · have hr : cutOf b p n = ([], 11) := by simp [cutOf, hn, hbad]
      rw [hr] at hq ⊢
      have Hq := hid hq; clear hq hr h hn hbad
      go_enter Try.func22, Try.ntmps22
      go_wp2_with ((go_at_call 23; refine (Hq.out).mono ?_; rintro e w' ⟨rfl, rfl⟩))
      go_ret2
      exact ⟨rfl, rfl⟩
    · obtain ⟨m, rfl⟩ : ∃ m : Nat, n = m := ⟨n.toNat, by omega⟩
      have hr : cutOf b p m = ((b.drop p.toNat).take m, 0) := by simp only [cutOf, hn, if_neg hbad]; rfl
      have hlen : ((b.drop p.toNat).take m).length = m := by simp; omega
      rw [hr] at hq ⊢
      have Hq := hid hq; clear hq hr h hn hbad
      simp only at Hq ⊢
      generalize (b.drop p.toNat).take m = row at *
      subst hlen
      go_enter Try.func22, Try.ntmps22
      go_wp2_with ((go_at_call 23; refine (Hq.out).mono ?_; rintro e w' ⟨rfl, rfl⟩))
      go_loop [8, 10, 11] (fun v u i => ∃ j : Nat, j ≤ row.length ∧ i = .int .i64 j ∧ v = .int .u64 ((beVal row / 256 ^ j : Nat) : Int) ∧ u = .int .u64 (leVal (row.drop (row.length - j)))) (fun _ _ i => row.length - (intOf i).toNat)
      case atStart => exact ⟨0, Nat.zero_le _, rfl, by simp, by simp [leVal, beVal]⟩
      case round =>
        obtain ⟨j, hj, rfl, rfl, rfl⟩ := hrel
        by_cases hjt : j < row.length
        · have hV : beVal row / 256 ^ j < 18446744073709551616 := Nat.lt_of_le_of_lt (Nat.div_le_self _ _) (beVal_u64 (by omega))
          have hmod := beVal_mod row j hjt
          have hb := row[row.length - 1 - j].toNat_lt
          have hS : leVal (row.drop (row.length - j)) ≤ 72057594037927935 := leVal_small (by simp; omega)
          have hor := shl_or _ row[row.length - 1 - j].toNat hS hb
          have HS := hid (show leVal (row.drop (row.length - (j + 1))) = leVal (row.drop (row.length - j)) * 256 + row[row.length - 1 - j].toNat by
            rw [show row.length - (j + 1) = row.length - 1 - j from by omega, List.drop_eq_getElem_cons (by omega), leVal_cons, show row.length - 1 - j + 1 = row.length - j from by omega])
          have HY := hid (show beVal row / 256 ^ (j + 1) = beVal row / 256 ^ j / 256 by rw [Nat.pow_succ, Nat.div_div_eq_div_mul])
          generalize leVal (row.drop (row.length - j)) = S at *
          generalize beVal row / 256 ^ j = Y at *
          generalize row[row.length - 1 - j].toNat = x at *
          have hand : bits .and .u64 (Y : Int) 255 = (x : Int) := by
            rw [show (255 : Int) = ((255 : Nat) : Int) from rfl, u64_and_nat Y 255 hV (by omega), nat_mask8, hmod]
          clear hmod
          go_wp2
          go_round
          case rel => exact ⟨j + 1, by omega, by go_num, by rw [HY.out]; go_num, by rw [HS.out]; go_num⟩
          case measure => simp [intOf]; omega
        · obtain rfl : j = row.length := by omega
          go_wp2
          go_ret2
          exact ⟨ret_two (by simp) rfl, rfl⟩
  · have hr : cutOf b p n = ([], 1) := by simp [cutOf, hn]
    rw [hr] at hq ⊢
    have Hq := hid hq; clear hq hr h hn
    go_enter Try.func22, Try.ntmps22
    go_wp2_with ((go_at_call 23; refine (Hq.out).mono ?_; rintro e w' ⟨rfl, rfl⟩))
    go_ret2
    exact ⟨rfl, rfl⟩

theorem fits_dec' (N x : Nat) (h : N ≠ 8) : (((x : Int) / 2 ^ (8 * N)) != 0) = !(fitsOne N x) := by rw [two_pow_8]; exact fits_dec N x h

theorem rput_any (f : Nat → Nat → List UInt8) (low : Bool) (hflen : ∀ m x, (f m x).length = m)
    (hf : ∀ m x j, j < m → (f m x)[j]? = some (UInt8.ofNat (x / 256 ^ (if low then j else m - 1 - j))))
    (v : Value) (b : List UInt8) (n : Int) (vl : Value) (l : List Nat) (w : World) (h : Bs w v b) (hU : U64s w vl l) (hsize : b.length + 8 * l.length ≤ 190000000000000) :
    Calls Try.prog 25 #[v, .int .i64 n, vl, .bool low] w fun e w' => ∃ v', e = .returned (.tuple #[v', .int .i64 (putOf f b n l).2]) ∧ OwnBs w' w.heap.size 5 v' (putOf f b n l).1 ∧ Below w.heap.size w w' := by
  by_cases hn : okSize n = true
  · have hn2 := okSize_le hn
    obtain ⟨m, rfl⟩ : ∃ m : Nat, n = m := ⟨n.toNat, by omega⟩
    have Hn := hid hn; have Hb := hid h; have HU := hid hU; have Hflen := hid hflen; have Hfb := hid hf
    clear h hU hn hflen hf
    obtain ⟨A, cap, rfl, k1, k2, k3⟩ := HU.out.cells
    have K3 := hid k3; clear k3
    go_enter Try.func25, Try.ntmps25
    go_wp2_with (first | ((go_at_call 27; refine (rsize_any _ _).mono ?_; rintro e w' ⟨rfl, rfl⟩); rw [Hn.out]) | (at_builtin; refine wpList_app8 _ rfl _ _ 24 rfl w.heap.size 5 u8ok _ [] rfl (ownBs_lit #[] [] rfl (Nat.le_refl _) (by simp)) _ b rfl (Hb.out.alloc _) (by simp; omega) (by simp) ?_; intro v1 w1 hown1 hb1 hg1 hat1; clear hg1 hat1))
    rw [List.nil_append] at hown1
    have Hown1 := hid hown1; clear hown1
    have hb2 : Below w.heap.size w w1 := (below_alloc w _).trans hb1
    clear hb1
    go_loopw [10, 11] (fun o i wr => ∃ k : Nat, k ≤ l.length ∧ i = .int .i64 k ∧ (l.take k).all (fitsOne m) = true ∧ Hid (OwnBs wr w.heap.size 5 o (b ++ (l.take k).flatMap (f m))) ∧ Below w.heap.size w wr) (fun _ i _ => l.length - (intOf i).toNat)
    case atStart => exact ⟨0, Nat.zero_le _, rfl, rfl, by simpa using Hown1, hb2⟩
    case round =>
      obtain ⟨k, hk, rfl, hall, Hown, hbw⟩ := hrel
      have Hall := hid hall
      clear Hown1 hb2 hall
      by_cases hkt : k < l.length
      · obtain ⟨bb, off, rfl, hcell, hlt⟩ := K3.out k hkt
        have hcell1 := cell_below hbw hcell
        by_cases hfit : fitsOne m l[k] = true
        · have Hsn := hid (flatMap_snoc (f m) l k hkt)
          have Hall2 := hid (all_snoc hkt Hall.out hfit)
          have hlen : (b ++ (l.take k).flatMap (f m)).length + 8 ≤ b.length + 8 * l.length := by
            have := flatMap_len_lt (f := f m) (Hflen.out m) (by omega) l k hkt
            rw [List.length_append]; omega
          have Hfm := hid (List.append_assoc b ((l.take k).flatMap (f m)) (f m l[k]))
          rw [← Hsn.out] at Hfm
          have hdec : (m : Int) < 8 → ((l[k] : Int) / 2 ^ (8 * m) != 0) = false := by
            intro hm; rw [fits_dec' m l[k] (by omega), hfit]; rfl
          have Hcell := hid hcell
          clear hcell hfit
          have Hgl := hid (show ∃ x, x = l[k] from ⟨_, rfl⟩)
          have HF := hid (Hfb.out m l[k])
          have HL := hid (Hflen.out m l[k])
          generalize (b ++ (l.take k).flatMap (f m)) = B at *
          generalize f m l[k] = F at *
          generalize l[k] = x at *
          clear Hgl
          obtain ⟨wo, rfl⟩ : ∃ wo : World, wo = wr := ⟨_, rfl⟩
          have hcases : ((m : Int) < 8 ∧ decide ((m : Int) < 8) = true ∧ ((x : Int) / 2 ^ (8 * m) != 0) = false) ∨ decide ((m : Int) < 8) = false := by
            by_cases hm : (m : Int) < 8
            · exact .inl ⟨hm, by simpa using hm, hdec hm⟩
            · exact .inr (by simpa using hm)
          clear hdec
          rcases hcases with ⟨hm8, hm8', hdec⟩ | hm8'
          all_goals
            go_wp2
            go_loopw [10, 12] (fun o i wr => ∃ j : Nat, j ≤ m ∧ i = .int .i64 j ∧ Hid (OwnBs wr w.heap.size 5 o (B ++ F.take j)) ∧ Below w.heap.size w wr) (fun _ i _ => m - (intOf i).toNat)
            case atStart => exact ⟨0, Nat.zero_le _, rfl, by simpa using Hown, hbw⟩
            case round =>
              obtain ⟨j, hj, rfl, Hown2, hbw2⟩ := hrel
              by_cases hjt : j < m
              · have Htk := hid (show F.take (j + 1) = F.take j ++ [UInt8.ofNat (x / 256 ^ (if low then j else m - 1 - j))] by
                  rw [List.take_add_one, HF.out j hjt]; rfl)
                have hlen2 : (B ++ F.take j).length ≤ b.length + 8 * l.length := by
                  have := HL.out
                  rw [List.length_append, List.length_take]; omega
                have hcell2 := cell_below hbw2 Hcell.out
                cases low
                · obtain ⟨q, hq⟩ : ∃ q : Nat, m - 1 - j = q := ⟨_, rfl⟩
                  have hq1 : (m : Int) - 1 - (j : Int) = (q : Int) := by omega
                  have Hq := hid hq; clear hq
                  have hq8 : q < 8 := by have := Hq.out; omega
                  go_wp2_with (at_builtin; refine wpList_app8 _ rfl _ _ 24 rfl w.heap.size 5 u8ok _ _ rfl (Hown2.out.alloc _) _ [UInt8.ofNat (x / 256 ^ q)] rfl (bs_one (u8_shr x q)) (by simp only [List.length_singleton]; omega) (by simp; have := hbw2.size; omega) ?_; intro v3 w3 hown3 hb3 hg3 hat3; clear hg3 hat3)
                  go_roundw
                  case rel => exact ⟨j + 1, by omega, by go_num, by rw [Htk.out, ← List.append_assoc]; simp only [Bool.false_eq_true, if_false]; rw [Hq.out]; exact hown3, (hbw2.alloc hbw2.size _).trans hb3⟩
                  case measure => simp [intOf]; omega
                · go_wp2_with (at_builtin; refine wpList_app8 _ rfl _ _ 24 rfl w.heap.size 5 u8ok _ _ rfl (Hown2.out.alloc _) _ [UInt8.ofNat (x / 256 ^ j)] rfl (bs_one (u8_shr x j)) (by simp only [List.length_singleton]; omega) (by simp; have := hbw2.size; omega) ?_; intro v3 w3 hown3 hb3 hg3 hat3; clear hg3 hat3)
                  go_roundw
                  case rel => exact ⟨j + 1, by omega, by go_num, by rw [Htk.out, ← List.append_assoc]; exact hown3, (hbw2.alloc hbw2.size _).trans hb3⟩
                  case measure => simp [intOf]; omega
              · have e : F.take j = F := List.take_of_length_le (by rw [HL.out]; omega)
                rw [e] at Hown2
                have Hall3 := hid Hall2.out
                clear e Hown
                go_wp2
                go_roundw
                case rel => exact ⟨k + 1, by omega, by go_num, Hall3.out, by rw [← Hfm.out]; exact Hown2, hbw2⟩
                case measure => simp [intOf]; omega
        · have hfit' : fitsOne m l[k] = false := by simpa using hfit
          have hm8 : m ≠ 8 := by rintro rfl; simp [fitsOne] at hfit'
          have hdec : ((l[k] : Int) / 2 ^ (8 * m) != 0) = true := by rw [fits_dec' m l[k] hm8, hfit']; rfl
          have hm8' : decide ((m : Int) < 8) = true := by simp; omega
          have hm9 : (m : Int) < 8 := by omega
          have Hr := hid (show putOf f b m l = ([], 1) by simp [putOf, fitsB, all_no hkt hfit'])
          clear hfit hfit' hcell hm8
          generalize l[k] = x at *
          go_wp2
          go_ret2
          exact ⟨_, by rw [Hr.out]; rfl, by rw [Hr.out]; exact OwnBs.nil _ _ _, hbw⟩
      · have e : l.take k = l := List.take_of_length_le (by omega)
        rw [e] at Hown Hall
        have Hr := hid (show putOf f b m l = (b ++ l.flatMap (f m), 0) by simp [putOf, fitsB, Hn.out, Hall.out])
        clear e
        go_wp2
        go_ret2
        exact ⟨_, by rw [Hr.out]; rfl, by rw [Hr.out]; exact Hown.out, hbw⟩
  · have hn' : okSize n = false := by simpa using hn
    have Hr := hid (show putOf f b n l = ([], 1) by simp [putOf, fitsB, hn'])
    have Hn := hid hn'
    clear hn hn' hf hflen hU h
    go_enter Try.func25, Try.ntmps25
    go_wp2_with ((go_at_call 27; refine (rsize_any _ _).mono ?_; rintro e w' ⟨rfl, rfl⟩); rw [Hn.out])
    go_ret2
    exact ⟨_, by rw [Hr.out]; rfl, by rw [Hr.out]; exact OwnBs.nil _ _ _, Below.refl _ _⟩

theorem rputLe_any (v : Value) (b : List UInt8) (n : Int) (vl : Value) (l : List Nat) (w : World) (h : Bs w v b) (hU : U64s w vl l) (hsize : b.length + 8 * l.length ≤ 190000000000000) :
    Calls Try.prog 18 #[v, .int .i64 n, vl] w fun e w' => ∃ v', e = .returned (.tuple #[v', .int .i64 (putOf leBytes b n l).2]) ∧ OwnBs w' w.heap.size 5 v' (putOf leBytes b n l).1 ∧ Below w.heap.size w w' := by
  have Hc := hid (rput_any leBytes true leBytes_len (fun m x j hj => by simp [leBytes, hj]) v b n vl l w h hU hsize)
  clear h hU hsize
  go_enter Try.func18, Try.ntmps18
  go_wp2_with ((go_at_call 25; refine (Hc.out).mono ?_; rintro e w' ⟨v1, rfl, hown, hb⟩))
  go_ret2
  exact ⟨v1, rfl, hown, hb⟩

theorem rputBe_any (v : Value) (b : List UInt8) (n : Int) (vl : Value) (l : List Nat) (w : World) (h : Bs w v b) (hU : U64s w vl l) (hsize : b.length + 8 * l.length ≤ 190000000000000) :
    Calls Try.prog 19 #[v, .int .i64 n, vl] w fun e w' => ∃ v', e = .returned (.tuple #[v', .int .i64 (putOf beBytes b n l).2]) ∧ OwnBs w' w.heap.size 5 v' (putOf beBytes b n l).1 ∧ Below w.heap.size w w' := by
  have Hc := hid (rput_any beBytes false beBytes_len (fun m x j hj => by simp [beBytes, hj]) v b n vl l w h hU hsize)
  clear h hU hsize
  go_enter Try.func19, Try.ntmps19
  go_wp2_with ((go_at_call 25; refine (Hc.out).mono ?_; rintro e w' ⟨v1, rfl, hown, hb⟩))
  go_ret2
  exact ⟨v1, rfl, hown, hb⟩
end Go.Proofs.Ytgmeogcgcabjoaa
