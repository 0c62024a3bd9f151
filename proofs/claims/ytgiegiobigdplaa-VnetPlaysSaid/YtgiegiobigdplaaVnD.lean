/- The program's ring and device are made. -/
import Derived.Test.YtgiegiobigdplaaVnB
import Derived.Test.YtgiegiobigdplaaStruct
import Derived.Test.YtgiegiobigdplaaKept
namespace Go.Proofs.Ytgiegiobigdplaa
section
open Go Go.RowKit
attribute [local go_sem ↓] Go.wp_at_zero Go.wp_at_succ
set_option maxRecDepth 100000
set_option linter.unusedSimpArgs false

theorem rvle_at (gm L : Nat) (M : List UInt8) (p k : Nat) (w : World) (hL : M.length = L) (hL1 : L ≤ 1000000) (hm : MemAt w gm M) (hp : p + k ≤ L) (hk : k = 2 ∨ k = 4) :
    Calls Try.prog 55 #[.slice (some ⟨gm, 0, none⟩) L L, .int .i64 (p : Int), .int .i64 (k : Int)] w fun e w' => e = .returned (.int .i64 (leAt M p k : Int)) ∧ w' = w := by
  have hB := hm.bs (off := 0) (n := L) (cap := L) (by omega) (Nat.le_refl _) (by simp only [maxLen]; omega)
  have hC := cut_mem M 0 L p k (by rcases hk with rfl | rfl <;> rfl) (by omega) (by omega)
  have h0 := rle_any (.slice (some ⟨gm, 0, none⟩) L L) ((M.drop 0).take L) (p : Int) (k : Int) w hB (by omega) (by omega)
  rw [hC, Nat.zero_add] at h0
  obtain ⟨x, hx⟩ : ∃ x, leAt M p k = x := ⟨_, rfl⟩
  have hxl : x < 4294967296 := by
    rw [← hx]
    have h2 : (256 : Nat) ^ k ≤ 4294967296 := by rcases hk with rfl | rfl <;> decide
    exact Nat.lt_of_lt_of_le (leAt_lt M p k) h2
  rw [show leVal ((M.drop p).take k) = x from hx] at h0
  rw [hx]
  have HL := hid h0
  clear hm hB hC hk h0 hx
  go_enter Try.func55, Try.ntmps55
  go_wp2_with (go_at_call 63; refine HL.out.mono ?_; rintro e w' ⟨rfl, rfl⟩)
  go_ret
  exact ⟨rfl, rfl⟩
/-- one byte more of a piece is written -/
theorem patch_get (M B : List UInt8) (p j : Nat) (h : p + B.length ≤ M.length) : (patch M p B)[j]? = if j < p then M[j]? else if j < p + B.length then B[j - p]? else M[j]? := by
  unfold patch
  have hp : (M.take p).length = p := by rw [List.length_take]; omega
  split
  · rw [List.getElem?_append_left (by omega), List.getElem?_take, if_pos (by assumption)]
  · split
    · rw [List.getElem?_append_right (by omega), hp, List.getElem?_append_left (by omega)]
    · rw [List.getElem?_append_right (by omega), hp, List.getElem?_append_right (by omega), List.getElem?_drop]
      congr 1
      omega
theorem patch_step (M B : List UInt8) (p i : Nat) (x : UInt8) (hx : B[i]? = some x) (h : p + B.length ≤ M.length) : (patch M p (B.take i)).set (p + i) x = patch M p (B.take (i + 1)) := by
  have hi : i < B.length := (List.getElem?_eq_some_iff.1 hx).1
  have hl1 : (B.take i).length = i := by rw [List.length_take]; omega
  have hl2 : (B.take (i + 1)).length = i + 1 := by rw [List.length_take]; omega
  apply List.ext_getElem?
  intro j
  rw [List.getElem?_set, patch_get M (B.take (i + 1)) p j (by omega), hl2, patch_len (by omega)]
  by_cases e : p + i = j
  · subst e
    rw [if_pos rfl, if_pos (by omega), if_neg (by omega), if_pos (by omega), Nat.add_sub_cancel_left, List.getElem?_take, if_pos (by omega), hx]
  · rw [if_neg e, patch_get M (B.take i) p j (by omega), hl1]
    by_cases h1 : j < p
    · rw [if_pos h1, if_pos h1]
    · rw [if_neg h1, if_neg h1]
      by_cases h2 : j < p + i
      · rw [if_pos h2, if_pos (by omega), List.getElem?_take, List.getElem?_take, if_pos (by omega), if_pos (by omega)]
      · rw [if_neg h2, if_neg (by omega)]
theorem patch_nil (M : List UInt8) (p : Nat) : patch M p [] = M := by
  unfold patch
  simp
theorem rvset_at (gm L : Nat) (M : List UInt8) (p k v : Nat) (w : World) (hL : M.length = L) (hL1 : L ≤ 1000000) (hm : MemAt w gm M) (hp : p + k ≤ L) (hk : k ≤ 8) (hv : v < 9223372036854775808) :
    Calls Try.prog 57 #[.slice (some ⟨gm, 0, none⟩) L L, .int .i64 (p : Int), .int .i64 (k : Int), .int .i64 (v : Int)] w (SetPost gm (putAt M p k v) w) := by
  have HL := hid hL
  have HM := hid hm
  obtain ⟨B, hB⟩ : ∃ B, leBytes k v = B := ⟨_, rfl⟩
  have Hlen := hid (show B.length = k by rw [← hB]; exact leBytes_len k v)
  have HB := hid (show ∀ i, i < k → B[i]? = some (UInt8.ofNat (v / 256 ^ i)) from fun i hi => by
    rw [← hB, List.getElem?_eq_getElem (by rw [leBytes_len]; exact hi)]
    exact congrArg some (leBytes_get k v i hi))
  unfold putAt
  rw [hB]
  clear hB
  clear hL hm
  go_enter Try.func57, Try.ntmps57
  go_wp2_with fail
  go_loopg [8] k (fun gk s8 wx => ∃ i : Nat, i + gk = k ∧ s8 = .int .i64 (i : Int) ∧ MemAt wx gm (patch M p (B.take i)) ∧ Frame (fun z => z = gm) w wx)
  case atStart => exact ⟨0, by omega, rfl, by rw [List.take_zero, patch_nil]; exact HM.out, Frame.refl _ _⟩
  case round =>
    obtain ⟨i, hi, rfl, hM, hF⟩ := hrel
    have HMi := hid hM
    have HF := hid hF
    by_cases hlt : i < k
    · have hltI : (i : Int) < (k : Int) := by omega
      have hlB : i < B.length := by rw [Hlen.out]; exact hlt
      have hcell : ∃ u, wr.cell? ⟨gm, p + i, none⟩ = some u := by
        have hl : (patch M p (B.take i)).length = M.length := patch_len (by rw [List.length_take, HL.out]; have := Hlen.out; omega)
        have hlt2 : p + i < ((patch M p (B.take i)).map u8v).length := by rw [List.length_map, hl, HL.out]; omega
        exact ⟨_, by rw [Blk.cell hM (p + i)]; exact List.getElem?_eq_getElem hlt2⟩
      obtain ⟨old, hcell⟩ := hcell
      have hz := Blk.frozen hM (p + i)
      have hsh : (v : Int) / 2 ^ (8 * i) % 256 = ((UInt8.ofNat (v / 256 ^ i)).toNat : Int) := u8_shr v i
      have Hsh := hid hsh
      have Hst := hid (patch_step M B p i _ (HB.out i hlt) (by rw [Hlen.out, HL.out]; omega))
      have Hms := hid (show k - (i + 1) < gk ∧ i + 1 + (k - (i + 1)) = k by omega)
      clear hM hF hsh
      go_wp2_with fail
      go_roundg (k - (i + 1))
      case measure => exact Hms.out.1
      case rel =>
        refine ⟨i + 1, Hms.out.2, by go_num, ?_, HF.out.trans (frame_mem (grown_set _ _ _ _)) (fun _ _ h => h)⟩
        have h2 := Blk.set_ HMi.out (p + i) (u8v (UInt8.ofNat (v / 256 ^ i)))
        rw [← List.map_set, Hst.out] at h2
        rw [show (Value.int .u8 ((v : Int) / 2 ^ (8 * i) % 256)) = u8v (UInt8.ofNat (v / 256 ^ i)) by rw [Hsh.out]]
        exact h2
    · obtain rfl : i = k := by omega
      have hltI : ¬ (i : Int) < (i : Int) := by omega
      clear hM hF
      go_wp2_with fail
      go_end0
      have h2 := HMi.out
      rw [List.take_of_length_le (by rw [Hlen.out]; omega)] at h2
      exact ⟨⟨_, rfl⟩, h2, HF.out⟩
theorem rvfits_yes (A : Option Addr) (L cap b n : Nat) (w : World) (hok : okN (n : Int) = true) (hb : b + vSize n ≤ L) (hL : L ≤ 1000000) :
    Calls Try.prog 52 #[.slice A L cap, .int .i64 (b : Int), .int .i64 (n : Int)] w fun e w' => e = .returned (.bool true) ∧ w' = w := by
  have h0 := fun wy => rvsize_any (n : Int) wy
  rw [vSizeI_of hok] at h0
  have hn := okN_le hok
  obtain ⟨S, hS⟩ : ∃ S, vSize n = S := ⟨_, rfl⟩
  rw [hS] at h0 hb
  have hS0 : 0 < S := by rw [← hS]; unfold vSize; omega
  have HS := hid h0
  have h1 : (S : Int) > 0 := by omega
  have h2 : (b : Int) ≥ 0 := by omega
  have h3 : (b : Int) ≤ (L : Int) := by omega
  have h4 : (L : Int) - (b : Int) ≥ (S : Int) := by omega
  have h4' : (S : Int) ≤ (L : Int) - (b : Int) := by omega
  clear h0 hS hok
  go_enter Try.func52, Try.ntmps52
  go_wp2_with (go_at_call 26; refine (HS.out _).mono ?_; rintro e w' ⟨rfl, rfl⟩)
  go_ret
  first
    | exact ⟨rfl, rfl⟩
    | (refine ⟨?_, rfl⟩; simp [h4'])
theorem rarea_any (n : Int) (w : World) : Calls Try.prog 9 #[.int .i64 n] w fun e w' => e = .returned (.int .i64 (vAreaI n)) ∧ w' = w := by
  have HS := hid (rvsize_any n w)
  cases hok : okN n with
  | true =>
    have HA := hid (show vAreaI n = 2 * (8 + 26 * n) + 2 * n * 1528 by unfold vAreaI; rw [hok]; rfl)
    have HV := hid (show vSizeI n = 8 + 26 * n by unfold vSizeI; rw [hok]; rfl)
    have hb := okN_le hok
    rw [HV.out] at HS
    clear hok
    have hz : (8 + 26 * n == 0) = false := beq_eq_false_iff_ne.2 (by omega)
    go_enter Try.func9, Try.ntmps9
    go_wp2_with (go_at_call 26; refine HS.out.mono ?_; rintro e w' ⟨rfl, rfl⟩)
    go_ret
    rw [HA.out]
    exact ⟨rfl, rfl⟩
  | false =>
    have HA := hid (show vAreaI n = 0 by unfold vAreaI; rw [hok]; rfl)
    have HV := hid (show vSizeI n = 0 by unfold vSizeI; rw [hok]; rfl)
    rw [HV.out] at HS
    clear hok
    go_enter Try.func9, Try.ntmps9
    go_wp2_with (go_at_call 26; refine HS.out.mono ?_; rintro e w' ⟨rfl, rfl⟩)
    go_ret
    rw [HA.out]
    exact ⟨rfl, rfl⟩
theorem rvfits5_any (A : Option Addr) (L cap : Nat) (base n : Int) (w : World) (hL : L ≤ 1000000) :
    Calls Try.prog 30 #[.slice A L cap, .int .i64 base, .int .i64 n] w fun e w' => e = .returned (.bool (vFits L base n)) ∧ w' = w := by
  have h0 := fun wy => rarea_any n wy
  cases hok : okN n with
  | true =>
    obtain ⟨ar, har⟩ : ∃ x, vAreaI n = x := ⟨_, rfl⟩
    have hb := okN_le hok
    have ha : 0 < ar ∧ ar ≤ 800000 := by rw [← har]; unfold vAreaI; rw [if_pos hok]; omega
    have HR := hid (show vFits L base n = (decide (0 ≤ base) && decide (base + ar ≤ (L : Int))) by unfold vFits; rw [hok, har]; simp)
    rw [har] at h0
    have HS := hid h0
    have ha1 : ar > 0 := ha.1
    clear hok har h0
    by_cases h0 : 0 ≤ base
    · have h0' : base ≥ 0 := h0
      by_cases hbl : base ≤ (L : Int)
      · have HR := hid (show vFits L base n = decide (ar ≤ (L : Int) - base) by rw [HR.out, decide_eq_true h0, Bool.true_and]; exact decide_eq_decide.2 (by omega))
        have hw : IntKind.i64.wrap ((L : Int) - base) = (L : Int) - base := IntWalk.i64_in _ (by omega)
        go_enter Try.func30, Try.ntmps30
        go_wp2_with (go_at_call 9; refine (HS.out _).mono ?_; rintro e w' ⟨rfl, rfl⟩)
        go_ret
        rw [HR.out]
        exact ⟨rfl, rfl⟩
      · have HR := hid (show vFits L base n = false by rw [HR.out]; have : ¬ base + ar ≤ (L : Int) := by omega
                                                       simp [this])
        go_enter Try.func30, Try.ntmps30
        go_wp2_with (go_at_call 9; refine (HS.out _).mono ?_; rintro e w' ⟨rfl, rfl⟩)
        go_ret
        rw [HR.out]
        exact ⟨rfl, rfl⟩
    · have h0' : ¬ base ≥ 0 := h0
      have HR := hid (show vFits L base n = false by rw [HR.out]; simp [h0])
      go_enter Try.func30, Try.ntmps30
      go_wp2_with (go_at_call 9; refine (HS.out _).mono ?_; rintro e w' ⟨rfl, rfl⟩)
      go_ret
      rw [HR.out]
      exact ⟨rfl, rfl⟩
  | false =>
    have HR := hid (show vFits L base n = false by unfold vFits; rw [hok]; rfl)
    have HV := hid (show vAreaI n = 0 by unfold vAreaI; rw [hok]; rfl)
    rw [HV.out] at h0
    have HS := hid h0
    clear hok h0
    go_enter Try.func30, Try.ntmps30
    go_wp2_with (go_at_call 9; refine (HS.out _).mono ?_; rintro e w' ⟨rfl, rfl⟩)
    go_ret
    rw [HR.out]
    exact ⟨rfl, rfl⟩
end
section
open Go Go.RowKit
attribute [local go_sem ↓] Go.wp_at_zero Go.wp_at_succ
set_option maxRecDepth 100000
set_option linter.unusedSimpArgs false

theorem ringinfo : (Try.prog.info? 113).map (·.size) = some 4 := by kernel_rfl
/-- a ring's cells -/
def ringCells (gm b n put got : Nat) : List Value := [.slice (some ⟨gm, b, none⟩) (vSize n) (vSize n), .int .i64 (n : Int), .int .i64 (put : Int), .int .i64 (got : Int)]
theorem vat_yes (gm L b n : Nat) (w : World) (hok : okN (n : Int) = true) (hb : b + vSize n ≤ L) (hL : L ≤ 1000000) :
    Calls Try.prog 53 #[.slice (some ⟨gm, 0, none⟩) L L, .int .i64 (b : Int), .int .i64 (n : Int)] w fun e w' => e = .returned (.tuple #[.agg #[.slice (some ⟨gm, b, none⟩) (vSize n) (vSize n), .int .i64 (n : Int), .int .i64 0, .int .i64 0], .int .i64 0]) ∧ Below w.heap.size w w' := by
  have h0 := fun wy => vsize_any (n : Int) wy
  rw [vSizeI_of hok] at h0
  have hn := okN_le hok
  obtain ⟨S, hS⟩ : ∃ S, vSize n = S := ⟨_, rfl⟩
  rw [hS] at h0 hb
  rw [hS]
  have hS0 : 0 < S := by rw [← hS]; unfold vSize; omega
  have HS := hid h0
  have t1 : ((S : Int) == 0) = false := beq_eq_false_iff_ne.2 (by omega)
  have t2 : ¬ (b : Int) < 0 := by omega
  have t3 : ¬ (b : Int) > (L : Int) - (S : Int) := by omega
  have t4 : IntKind.i64.wrap ((b : Int) + (S : Int)) = (b : Int) + (S : Int) := IntWalk.i64_in _ (by omega)
  obtain ⟨ii, hii, hz, hss, hbyy⟩ := info_parts u8info
  have hcut := run_cut_lmax (P := Try.prog) (T := 25) Try.underlying25 hii (some ⟨gm, 0, none⟩) L L .i64 .i64 .i64 (b : Int) ((b : Int) + (S : Int)) b S rfl rfl hb hS0
  have ha : (some (⟨gm, 0, none⟩ : Addr)).map (·.add (b * 1)) = some ⟨gm, b, none⟩ := by
    simp only [Option.map_some, Addr.add, Nat.mul_one]
    split
    · rename_i h; subst h; rfl
    · simp
  rw [hss, ha] at hcut
  clear hii hz hss hbyy h0 hok ha
  go_enter Try.func53, Try.ntmps53
  go_wp2_with (first
    | (go_at_call 25; refine (HS.out _).mono ?_; rintro e w' ⟨rfl, rfl⟩)
    | ((with_reducible show wpList _ _ _ (Oper.mk none _ _ _ _ _ :: _) _ _); refine wpList_storeBlk rfl _ _ _ rfl _ _ rfl rfl _ _ (Blk.new _ _ _) ringinfo rfl rfl ?_; intro w4 hblk hg hsz; have S4 := hid hblk; have Hb4 := hid (below_new_store hg); clear hblk hg hsz; (try simp only [Act.put])))
  refine ret_cell2 rfl _ _ _ _ rfl S4.out Try.underlying113 ringinfo _ rfl rfl ?_
  exact ⟨rfl, Hb4.out⟩
theorem devinfo : (Try.prog.info? 117).map (·.size) = some 4 := by kernel_rfl
/-- a device of the program's -/
structure DevAt (w : World) (base gm b n g : Nat) (d : VD) : Prop where
  tab : Blk w g 117 (ringCells gm b n d.got d.put)
  got : d.got < 65536
  put : d.put < 65536
  lo : base ≤ g
theorem vnewdev_yes (gm L b n : Nat) (w : World) (hok : okN (n : Int) = true) (hb : b + vSize n ≤ L) (hL : L ≤ 1000000) :
    Calls Try.prog 33 #[.slice (some ⟨gm, 0, none⟩) L L, .int .i64 (b : Int), .int .i64 (n : Int)] w fun e w' => ∃ g, e = .returned (.tuple #[.pointer (some ⟨g, 0, none⟩), .int .i64 0]) ∧ DevAt w' w.heap.size gm b n g ⟨0, 0⟩ ∧ Below w.heap.size w w' := by
  have HA := hid (vat_yes gm L b n w hok hb hL)
  clear hok hb hL
  go_enter Try.func33, Try.ntmps33
  go_wp2_with (first
    | (go_at_call 53; refine HA.out.mono ?_; rintro e w2 ⟨rfl, hb2⟩; have Hb2 := hid hb2; clear hb2)
    | ((with_reducible show wpList _ _ _ (Oper.mk none _ _ _ _ _ :: _) _ _); refine wpList_storeBlk rfl _ _ _ rfl _ _ rfl rfl _ _ (Blk.new _ _ _) ringinfo rfl rfl ?_; intro w4 hblk hg hsz; have S4 := hid hblk; have Hb4 := hid (below_new_store hg); clear hblk hg hsz; (try simp only [Act.put]))
    | ((with_reducible show wpList _ _ _ (Oper.mk (some 20) _ _ _ _ _ :: _) _ _); refine wpList_loadBlk rfl _ _ rfl _ rfl _ _ _ S4.out Try.underlying113 ringinfo ?_))
  go_ret2
  have h4 := Hb2.out.trans (Hb4.out.mono Hb2.out.size)
  exact ⟨_, rfl, ⟨Blk.new _ 117 _, by decide, by decide, h4.size⟩, below_alloc' h4 _⟩
end
end Go.Proofs.Ytgiegiobigdplaa
