/- The law's own helpers: lend, kept, known. -/
import Derived.Test.YtgmeogcgcabjoaaNumS
namespace Go.Proofs.Ytgmeogcgcabjoaa
open Go Go.RowKit

/-- the marks behind a lent row: j of them are laid -/
def lentAt (bs : List UInt8) (j : Nat) : List Value := bs.map u8v ++ (List.replicate j (.int .u8 165) ++ List.replicate (9 - j) (.int .u8 0))
def marks9 (bs : List UInt8) : List Value := bs.map u8v ++ List.replicate 9 (.int .u8 165)
theorem lentAt_set (bs : List UInt8) (j : Nat) (h : j < 9) : (lentAt bs j).set (bs.length + j) (.int .u8 165) = lentAt bs (j + 1) := by
  unfold lentAt
  rw [List.set_append_right _ _ (by simp)]
  congr 1
  rw [List.set_append_right _ _ (by simp)]
  simp only [List.length_map, List.length_replicate, Nat.add_sub_cancel_left, Nat.sub_self]
  obtain ⟨m, hm⟩ : ∃ m, 9 - j = m + 1 := ⟨8 - j, by omega⟩
  rw [hm, show 9 - (j + 1) = m from by omega, List.replicate_succ, List.set_cons_zero, List.replicate_succ', List.append_assoc]
  rfl

theorem lend_any (v : Value) (b : List UInt8) (w : World) (h : Bs w v b) (hl : b.length ≤ 140737488355328) :
    Calls Try.prog 10 #[v] w fun e w' => ∃ g, e = .returned (.slice (some ⟨g, 0, none⟩) b.length (b.length + 9)) ∧ w.heap.size ≤ g ∧ Blk w' g 5 (marks9 b) ∧ Below w.heap.size w w' := by
  have Hb := hid h
  obtain ⟨A, cap, rfl, k1, k2, _⟩ := h.cells
  clear h
  have hmk := run_make8 u8ok .i64 .i64 ((b.length : Int) + 9) (b.length + 9) (by omega) (by omega)
  obtain ⟨i, hi, hz, hs, hby⟩ := info_parts u8info
  have hcut := run_cut_to (P := Try.prog) (T := 24) Try.underlying24 hi (some ⟨w.heap.size, 0, none⟩) (b.length + 9) (b.length + 9) .i64 b.length b.length rfl (by omega)
  have hca : cutA (some ⟨w.heap.size, 0, none⟩) (b.length + 9) 0 i.size = some ⟨w.heap.size, 0, none⟩ := by unfold cutA; rw [if_neg (by omega)]; simp [add_off]
  rw [hca] at hcut
  clear hz hby hs hca
  have hlt : w.heap.size < (w.alloc (.cells (zero8 (b.length + 9)) 5)).heap.size := by simp
  have Hnew := hid (Blk.new w 5 (zero8 (b.length + 9)))
  have Hb2 := hid (Hb.out.alloc (.cells (zero8 (b.length + 9)) 5))
  go_enter Try.func10, Try.ntmps10
  go_wp2_with ((with_reducible show wpList _ _ _ (Oper.mk (some 11) _ _ _ _ _ :: _) _ _); refine wpList_copyBs rfl (.tmp 9) (.tmp 10) 24 rfl 5 u8ok w.heap.size 0 (b.length + 9) (b.length + 9) rfl _ b rfl Hb2.out _ 5 Hnew.out (by simp [zero8]) ?_; intro w1 hblk1 hg1 hsz1)
  have hblk2 : Blk w1 w.heap.size 5 (lentAt b 0) := by
    have : b.take (b.length + 9) = b := List.take_of_length_le (by omega)
    rw [this] at hblk1
    simpa [lentAt, zero8, List.drop_replicate] using hblk1
  have hb1 : Below w.heap.size w w1 := ((below_alloc w _).grown hg1 (by simp) (fun k hk => by simp at hk; omega))
  have Hblk2 := hid hblk2
  clear hblk1 hblk2 hg1 hlt hmk
  go_loopw [4] (fun i wr => ∃ j : Nat, j ≤ 9 ∧ i = .int .i64 ((b.length : Int) + j) ∧ Hid (Blk wr w.heap.size 5 (lentAt b j)) ∧ Below w.heap.size w wr) (fun i _ => 9 + b.length - (intOf i).toNat)
  case atStart => exact ⟨0, Nat.zero_le _, by simp, Hblk2, hb1⟩
  case round =>
    obtain ⟨j, hj, rfl, Hblk, hbw⟩ := hrel
    clear Hblk2 hb1
    by_cases hjt : j < 9
    · have hcell : wr.cell? ⟨w.heap.size, b.length + j, none⟩ = some (.int .u8 0) := by
        rw [Hblk.out.cell]
        unfold lentAt
        rw [List.getElem?_append_right (by simp), List.getElem?_append_right (by simp)]
        simp only [List.length_map, List.length_replicate, Nat.add_sub_cancel_left, Nat.sub_self]
        rw [List.getElem?_replicate, if_pos (by omega)]
      have hfz := Hblk.out.frozen (b.length + j)
      go_wp2
      go_roundw
      case rel => exact ⟨j + 1, by omega, val_int (by omega), by have := Hblk.out.set_ (b.length + j) (.int .u8 165); rw [lentAt_set b j hjt] at this; exact this, hbw.setCell (Nat.le_refl _) _⟩
      case measure => simp [intOf]; omega
    · obtain rfl : j = 9 := by omega
      go_wp2
      go_ret
      exact ⟨w.heap.size, rfl, Nat.le_refl _, by simpa [lentAt, marks9] using Hblk.out, hbw⟩

theorem kept_any (g : Nat) (v : Value) (b : List UInt8) (w : World) (h : Bs w v b) (hl : b.length ≤ 140737488355328) (hg : Blk w g 5 (marks9 b)) :
    Calls Try.prog 13 #[.slice (some ⟨g, 0, none⟩) b.length (b.length + 9), v] w fun e w' => e = .returned (.bool true) ∧ ∃ n, w' = w.drewN n := by
  obtain ⟨A, cap, rfl, k1, k2, k3⟩ := h.cells
  have K3 := hid k3; have Hg := hid hg
  clear h k3 hg
  obtain ⟨i, hi, hz, hs, hby⟩ := info_parts u8info
  have hcut := run_cut_to (P := Try.prog) (T := 24) Try.underlying24 hi (some ⟨g, 0, none⟩) b.length (b.length + 9) .i64 ((b.length : Int) + 9) (b.length + 9) rfl (by omega)
  have hca : cutA (some ⟨g, 0, none⟩) (b.length + 9) 0 i.size = some ⟨g, 0, none⟩ := by unfold cutA; rw [if_neg (by omega)]; simp [add_off]
  rw [hca] at hcut
  clear hz hby hs hca hi
  go_enter Try.func13, Try.ntmps13
  go_wp2
  clear hcut
  go_loopw [6] (fun i wr => ∃ j : Nat, j ≤ b.length + 9 ∧ i = .int .i64 j ∧ ∃ m, wr = w.drewN m) (fun i _ => 9 + b.length - (intOf i).toNat)
  case atStart => exact ⟨0, Nat.zero_le _, rfl, 0, rfl⟩
  case round =>
    obtain ⟨j, hj, rfl, m, rfl⟩ := hrel
    by_cases hjt : j < b.length + 9
    · by_cases hjb : j < b.length
      · obtain ⟨b1, off1, rfl, hcell1⟩ := K3.out j hjb
        have hc2 : w.cell? ⟨g, j, none⟩ = some (.int .u8 (b[j].toNat : Int)) := by
          rw [Hg.out.cell]; unfold marks9; rw [List.getElem?_append_left (by simpa using hjb)]; simp [hjb]
        have hd : decide ((j : Int) < (b.length : Int)) = true := by simp; omega
        have hne : ((b[j].toNat : Int) != (b[j].toNat : Int)) = false := by simp
        have hd2 : decide ((b.length : Int) ≤ (j : Int)) = false := by simp; omega
        have q1 : (0 : Int) ≤ (j : Int) := by omega
        have q2 : (j : Int) < (b.length : Int) := by omega
        have q3 : (j : Int) < (b.length : Int) + 9 := by omega
        have q4 : ¬ (b.length ≤ j) := by omega
        go_wp2_with fail
        go_quiet (fail)
        go_wp2_with fail
        go_roundw
        case rel => exact ⟨j + 1, by omega, by go_num, m + _, rfl⟩
        case measure => simp [intOf]; omega
      · have hc2 : w.cell? ⟨g, j, none⟩ = some (.int .u8 165) := by
          rw [Hg.out.cell]; unfold marks9; rw [List.getElem?_append_right (by simpa using hjb)]
          rw [List.getElem?_replicate, if_pos (by simp; omega)]
        have hd : decide ((j : Int) < (b.length : Int)) = false := by simp; omega
        have hne : ((165 : Int) != 165) = false := by simp
        have hd2 : decide ((b.length : Int) ≤ (j : Int)) = true := by simp; omega
        have q1 : (0 : Int) ≤ (j : Int) := by omega
        have q2 : (b.length : Int) ≤ (j : Int) := by omega
        have q3 : (j : Int) < (b.length : Int) + 9 := by omega
        have q4 : b.length ≤ j := by omega
        go_wp2_with fail
        go_quiet (fail)
        go_wp2_with fail
        go_roundw
        case rel => exact ⟨j + 1, by omega, by go_num, m + _, rfl⟩
        case measure => simp [intOf]; omega
    · go_wp2
      go_ret
      exact ⟨rfl, m, rfl⟩

theorem kept_below (g : Nat) (v : Value) (b : List UInt8) (w : World) (h : Bs w v b) (hl : b.length ≤ 140737488355328) (hg : Blk w g 5 (marks9 b)) :
    Calls Try.prog 13 #[.slice (some ⟨g, 0, none⟩) b.length (b.length + 9), v] w fun e w' => e = .returned (.bool true) ∧ Below w.heap.size w w' :=
  (kept_any g v b w h hl hg).mono fun _ _ ⟨he, n, hn⟩ => ⟨he, by rw [hn]; exact below_drewN (Below.refl _ _) n⟩

theorem known_any (w : World) : Calls Try.prog 9 #[] w fun e w' => e = .returned (.bool true) ∧ Below w.heap.size w w' := by
  have Hput := hid (show putOf beBytes [] 2 [1, 258] = ([0, 1, 1, 2], 0) by decide)
  have Hcrc := hid (show crc [[49, 50, 51, 52, 53, 54, 55, 56, 57]].flatten = 3808858755 by decide +kernel)
  have Hin := hid (show inet [[0, 1, 242, 3, 244, 245, 246, 247]].flatten = 8717 by
    have h1 : inetAcc false 0 [[0, 1, 242, 3, 244, 245, 246, 247]].flatten = 187888 := by decide
    rw [inet, h1, fold16_big (by omega), fold16_small (by omega)])
  have hst : (mkStr [0, 1, 1, 2]).toList = [0, 1, 1, 2] := mkStr_toList _
  have kc := fun (w : World) (C : Array Value) (n c : Nat) => Lib.run_convert_bytes_const (P := Try.prog) w 24 5 C n c Try.underlying24 Try.underlying5
  go_enter Try.func9, Try.ntmps9
  go_wp2_with (first
    | ((go_at_call 16; refine (putBe_any _ [] _ _ [1, 258] _ (Bs.nil _) (u64_lit #[.int .u64 1, .int .u64 258] [1, 258] _ _ rfl rfl (by decide) rfl (by simp)) (by simp)).mono ?_; rintro e w' ⟨v1, rfl, hown, hb⟩); rw [Hput.out] at hown ⊢; have hs := run_str Try.underlying24 Try.underlying5 Try.underlying9 hown.bs; have hb1 := (below_alloc w _).trans (hb.mono (by simp)); have Hb1 := hid hb1; clear hown hb hb1)
    | ((go_at_call 11; refine (crc_any _ [[49, 50, 51, 52, 53, 54, 55, 56, 57]] _ (rows_one (bs_litm _ _ _ _ rfl rfl (by decide) rfl) (by simp))).mono ?_; rintro e w' ⟨rfl, rfl⟩); rw [Hcrc.out])
    | ((go_at_call 12; refine (inet_any _ [[0, 1, 242, 3, 244, 245, 246, 247]] _ (rows_one (bs_litm _ _ _ _ rfl rfl (by decide) (by simp)) (by simp)) (by simp)).mono ?_; rintro e w' ⟨rfl, rfl⟩); rw [Hin.out]))
  go_ret
  have hb0 := Hb1.out.size
  refine ⟨rfl, ?_⟩
  exact ((((Hb1.out.alloc hb0 _).alloc (by simp; omega) _).alloc (by simp; omega) _).alloc (by simp; omega) _)
end Go.Proofs.Ytgmeogcgcabjoaa
