/- The program's ring and device are made. -/
import Derived.Test.YtgiegiobigdplaaVnC
import Derived.Test.YtgiegiobigdplaaStruct
import Derived.Test.YtgiegiobigdplaaKept
namespace Go.Proofs.Ytgiegiobigdplaa
open Go Go.RowKit
attribute [local go_sem ↓] Go.wp_at_zero Go.wp_at_succ
set_option maxRecDepth 100000
set_option linter.unusedSimpArgs false

theorem ringinfo : (Try.prog.info? 113).map (·.size) = some 4 := by kernel_rfl
/-- a ring's cells -/
def ringCells (gm b n put got : Nat) : List Value := [.slice (some ⟨gm, b, none⟩) (vSize n) (vSize n), .int .i64 (n : Int), .int .i64 (put : Int), .int .i64 (got : Int)]
theorem vat_yes (gm L b n : Nat) (w : World) (hok : okN (n : Int) = true) (hb : b + vSize n ≤ L) (hL : L ≤ 1000000) :
    Calls Try.prog 53 #[.slice (some ⟨gm, 0, none⟩) L L, .int .i64 (b : Int), .int .i64 (n : Int)] w fun e w' => e = .returned (.tuple #[.agg #[.slice (some ⟨gm, b, none⟩) (vSize n) (vSize n), .int .i64 (n : Int), .int .i64 0, .int .i64 0], .int .i64 0]) ∧ Below w.heap.size w w' := by
  have h0 := fun wy => vsize_any (n : Int) wy
  rw [vSizeI_of hok] at h0
  have hn := okN_le hok
  obtain ⟨S, hS⟩ : ∃ S, vSize n = S := ⟨_, rfl⟩
  rw [hS] at h0 hb
  rw [hS]
  have hS0 : 0 < S := by rw [← hS]; unfold vSize; omega
  have HS := hid h0
  have t1 : ((S : Int) == 0) = false := beq_eq_false_iff_ne.2 (by omega)
  have t2 : ¬ (b : Int) < 0 := by omega
  have t3 : ¬ (b : Int) > (L : Int) - (S : Int) := by omega
  have t4 : IntKind.i64.wrap ((b : Int) + (S : Int)) = (b : Int) + (S : Int) := IntWalk.i64_in _ (by omega)
  obtain ⟨ii, hii, hz, hss, hbyy⟩ := info_parts u8info
  have hcut := run_cut_lmax (P := Try.prog) (T := 25) Try.underlying25 hii (some ⟨gm, 0, none⟩) L L .i64 .i64 .i64 (b : Int) ((b : Int) + (S : Int)) b S rfl rfl hb hS0
  have ha : (some (⟨gm, 0, none⟩ : Addr)).map (·.add (b * 1)) = some ⟨gm, b, none⟩ := by
    simp only [Option.map_some, Addr.add, Nat.mul_one]
    split
    · rename_i h; subst h; rfl
    · simp
  rw [hss, ha] at hcut
  clear hii hz hss hbyy h0 hok ha
  go_enter Try.func53, Try.ntmps53
  go_wp2_with (first
    | (go_at_call 25; refine (HS.out _).mono ?_; rintro e w' ⟨rfl, rfl⟩)
    | ((with_reducible show wpList _ _ _ (Oper.mk none _ _ _ _ _ :: _) _ _); refine wpList_storeBlk rfl _ _ _ rfl _ _ rfl rfl _ _ (Blk.new _ _ _) ringinfo rfl rfl ?_; intro w4 hblk hg hsz; have S4 := hid hblk; have Hb4 := hid (below_new_store hg); clear hblk hg hsz; (try simp only [Act.put])))
  refine ret_cell2 rfl _ _ _ _ rfl S4.out Try.underlying113 ringinfo _ rfl rfl ?_
  exact ⟨rfl, Hb4.out⟩
theorem devinfo : (Try.prog.info? 117).map (·.size) = some 4 := by kernel_rfl
/-- a device of the program's -/
structure DevAt (w : World) (base gm b n g : Nat) (d : VD) : Prop where
  tab : Blk w g 117 (ringCells gm b n d.got d.put)
  got : d.got < 65536
  put : d.put < 65536
  lo : base ≤ g
theorem vnewdev_yes (gm L b n : Nat) (w : World) (hok : okN (n : Int) = true) (hb : b + vSize n ≤ L) (hL : L ≤ 1000000) :
    Calls Try.prog 33 #[.slice (some ⟨gm, 0, none⟩) L L, .int .i64 (b : Int), .int .i64 (n : Int)] w fun e w' => ∃ g, e = .returned (.tuple #[.pointer (some ⟨g, 0, none⟩), .int .i64 0]) ∧ DevAt w' w.heap.size gm b n g ⟨0, 0⟩ ∧ Below w.heap.size w w' := by
  have HA := hid (vat_yes gm L b n w hok hb hL)
  clear hok hb hL
  go_enter Try.func33, Try.ntmps33
  go_wp2_with (first
    | (go_at_call 53; refine HA.out.mono ?_; rintro e w2 ⟨rfl, hb2⟩; have Hb2 := hid hb2; clear hb2)
    | ((with_reducible show wpList _ _ _ (Oper.mk none _ _ _ _ _ :: _) _ _); refine wpList_storeBlk rfl _ _ _ rfl _ _ rfl rfl _ _ (Blk.new _ _ _) ringinfo rfl rfl ?_; intro w4 hblk hg hsz; have S4 := hid hblk; have Hb4 := hid (below_new_store hg); clear hblk hg hsz; (try simp only [Act.put]))
    | ((with_reducible show wpList _ _ _ (Oper.mk (some 20) _ _ _ _ _ :: _) _ _); refine wpList_loadBlk rfl _ _ rfl _ rfl _ _ _ S4.out Try.underlying113 ringinfo ?_))
  go_ret2
  have h4 := Hb2.out.trans (Hb4.out.mono Hb2.out.size)
  exact ⟨_, rfl, ⟨Blk.new _ 117 _, by decide, by decide, h4.size⟩, below_alloc' h4 _⟩
end Go.Proofs.Ytgiegiobigdplaa
