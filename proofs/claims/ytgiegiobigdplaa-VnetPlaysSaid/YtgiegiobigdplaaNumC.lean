/- Contracts of num: PutLe, PutBe. -/
import Derived.Test.YtgiegiobigdplaaNumB
namespace Go.Proofs.Ytgiegiobigdplaa
open Go Go.RowKit
set_option maxRecDepth 100000

theorem putLe_any (v : Value) (b : List UInt8) (n : Int) (vl : Value) (l : List Nat) (w : World) (h : Bs w v b) (hU : U64s w vl l) (hsize : b.length + 8 * l.length ≤ 190000000000000) :
    Calls Try.prog 66 #[v, .int .i64 n, vl] w fun e w' => ∃ v', e = .returned (.tuple #[v', .int .i64 (putOf leBytes b n l).2]) ∧ OwnBs w' w.heap.size 5 v' (putOf leBytes b n l).1 ∧ Below w.heap.size w w' := by
  by_cases hf : fitsB n l = true
  · have hr : putOf leBytes b n l = (b ++ l.flatMap (leBytes n.toNat), 0) := by simp [putOf, hf]
    have hn : okSize n = true := by simp only [fitsB, Bool.and_eq_true] at hf; exact hf.1
    have hn2 := okSize_le hn
    obtain ⟨m, rfl⟩ : ∃ m : Nat, n = m := ⟨n.toNat, by omega⟩
    rw [Int.toNat_natCast] at hr
    have Hf := hid hf; have Hr := hid hr; have Hb := hid h; have HU := hid hU
    clear hf hr h hU hn
    obtain ⟨A, cap, rfl, k1, k2, k3⟩ := HU.out.cells
    have K3 := hid k3; clear k3
    go_enter Try.func66, Try.ntmps66
    go_wp2_with (first | ((go_at_call 69; refine (fits_any _ _ _ _ HU.out).mono ?_; rintro e w' ⟨rfl, rfl⟩); rw [Hf.out]) | (at_builtin; refine wpList_app8 _ rfl _ _ 25 rfl w.heap.size 5 u8ok (.slice none 0 0) [] rfl (OwnBs.nil _ _ _) _ b rfl Hb.out (by simp; omega) (Nat.le_refl _) ?_; intro v1 w1 hown1 hb1 hg1 hat1))
    rw [List.nil_append] at hown1
    have Hown1 := hid hown1; clear hown1 hg1 hat1
    go_loopw [8, 19] (fun o i wr => ∃ k : Nat, k ≤ l.length ∧ i = .int .i64 k ∧ Hid (OwnBs wr w.heap.size 5 o (b ++ (l.take k).flatMap (leBytes m))) ∧ Below w.heap.size w wr) (fun _ i _ => l.length - (intOf i).toNat)
    case atStart => exact ⟨0, Nat.zero_le _, rfl, by simpa using Hown1, hb1⟩
    case round =>
      obtain ⟨k, hk, rfl, Hown, hbw⟩ := hrel
      clear Hown1 hb1
      by_cases hkt : k < l.length
      · obtain ⟨bb, off, rfl, hcell, hlt⟩ := K3.out k hkt
        have hcell1 := cell_below hbw hcell
        have Hsn := hid (flatMap_snoc (leBytes m) l k hkt)
        have hlen : (b ++ (l.take k).flatMap (leBytes m)).length + 8 ≤ b.length + 8 * l.length := by
          have := flatMap_len_lt (f := leBytes m) (leBytes_len m) (by omega) l k hkt
          rw [List.length_append]; omega
        have Hfm := hid (List.append_assoc b ((l.take k).flatMap (leBytes m)) (leBytes m l[k]))
        rw [← Hsn.out] at Hfm
        clear hcell
        generalize (b ++ (l.take k).flatMap (leBytes m)) = B at *
        generalize l[k] = x at *
        obtain ⟨wo, rfl⟩ : ∃ wo : World, wo = wr := ⟨_, rfl⟩
        go_wp2
        go_loopw [8, 10, 24] (fun o s i wr => ∃ j : Nat, j ≤ m ∧ i = .int .i64 j ∧ s = .int .u64 ((x / 256 ^ j : Nat) : Int) ∧ Hid (OwnBs wr w.heap.size 5 o (B ++ (leBytes m x).take j)) ∧ Below w.heap.size w wr) (fun _ _ i _ => m - (intOf i).toNat)
        case atStart => exact ⟨0, Nat.zero_le _, rfl, by simp, by simpa using Hown, hbw⟩
        case round =>
          obtain ⟨j, hj, rfl, rfl, Hown2, hbw2⟩ := hrel
          by_cases hjt : j < m
          · have hY : x / 256 ^ j < 18446744073709551616 := Nat.lt_of_le_of_lt (Nat.div_le_self _ _) hlt
            have HY := hid (show x / 256 ^ (j + 1) = x / 256 ^ j / 256 by rw [Nat.pow_succ, Nat.div_div_eq_div_mul])
            have Htk := hid (show (leBytes m x).take (j + 1) = (leBytes m x).take j ++ [UInt8.ofNat (x / 256 ^ j)] by rw [take_snoc _ _ (by rw [leBytes_len]; exact hjt), leBytes_get m x j hjt])
            have hlen2 : (B ++ (leBytes m x).take j).length ≤ b.length + 8 * l.length := by
              rw [List.length_append, List.length_take, leBytes_len]; omega
            generalize x / 256 ^ j = Y at *
            go_wp2_with (at_builtin; refine wpList_app8 _ rfl _ _ 25 rfl w.heap.size 5 u8ok _ _ rfl (Hown2.out.alloc _) _ [UInt8.ofNat Y] rfl (bs_one (u8_ofNat Y)) (by simp only [List.length_singleton]; omega) (by simp; have := hbw2.size; omega) ?_; intro v3 w3 hown3 hb3 hg3 hat3; clear hg3 hat3)
            go_roundw
            case rel => exact ⟨j + 1, by omega, by go_num, by rw [HY.out]; go_num, by rw [Htk.out, ← List.append_assoc]; exact hown3, (hbw2.alloc hbw2.size _).trans hb3⟩
            case measure => simp [intOf]; omega
          · have e : (leBytes m x).take j = leBytes m x := List.take_of_length_le (by rw [leBytes_len]; omega)
            rw [e] at Hown2
            clear e Hown
            go_wp2
            go_roundw
            case rel => exact ⟨k + 1, by omega, by go_num, by rw [← Hfm.out]; exact Hown2, hbw2⟩
            case measure => simp [intOf]; omega
      · have e : l.take k = l := List.take_of_length_le (by omega)
        rw [e] at Hown
        clear e
        go_wp2
        go_ret2
        exact ⟨_, by rw [Hr.out]; rfl, by rw [Hr.out]; exact Hown.out, hbw⟩
  · have hf' : fitsB n l = false := by simpa using hf
    have hr : putOf leBytes b n l = ([], 1) := by simp [putOf, hf']
    have Hf := hid hf'; have Hr := hid hr; have HU := hid hU
    clear hf hf' hr hU
    go_enter Try.func66, Try.ntmps66
    go_wp2_with ((go_at_call 69; refine (fits_any _ _ _ _ HU.out).mono ?_; rintro e w' ⟨rfl, rfl⟩); rw [Hf.out])
    go_ret2
    exact ⟨_, by rw [Hr.out]; rfl, by rw [Hr.out]; exact OwnBs.nil _ _ _, Below.refl _ _⟩
end Go.Proofs.Ytgiegiobigdplaa
