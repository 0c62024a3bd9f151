/- How many descriptors of the program's driver are free. -/
import Derived.Test.YtgiegiobigdplaaVnE
namespace Go.Proofs.Ytgiegiobigdplaa
open Go Go.RowKit
attribute [local go_sem ↓] Go.wp_at_zero Go.wp_at_succ
set_option maxRecDepth 100000
set_option linter.unusedSimpArgs false

def vFree (busy : List Bool) : Nat := (busy.filter fun x => !x).length
theorem vFree_snoc (busy : List Bool) (k : Nat) (b : Bool) (h : busy[k]? = some b) : vFree (busy.take (k + 1)) = vFree (busy.take k) + if b then 0 else 1 := by
  unfold vFree
  have hk : k < busy.length := (List.getElem?_eq_some_iff.1 h).1
  have hb : busy[k] = b := (List.getElem?_eq_some_iff.1 h).2
  rw [List.take_succ_eq_append_getElem hk, List.filter_append, List.length_append, hb]
  cases b <;> rfl
theorem vFree_pos {busy : List Bool} {i : Nat} (h : busy[i]? = some false) : 1 ≤ vFree busy := by
  unfold vFree
  have hm : false ∈ busy.filter (fun x => !x) := List.mem_filter.2 ⟨List.mem_of_getElem? h, rfl⟩
  exact List.length_pos_of_mem hm
theorem vFree_le (busy : List Bool) : vFree busy ≤ busy.length := List.length_filter_le _ _
theorem vfree_at (g gb n : Nat) (busy : List Bool) (w : World) (hl : busy.length = n) (hn : n ≤ 256) (hb : Blk w gb 4 (busy.map Value.bool)) (c4 : w.cell? ⟨g, 4, none⟩ = some (.slice (some ⟨gb, 0, none⟩) n n)) :
    Calls Try.prog 64 #[.pointer (some ⟨g, 0, none⟩)] w fun e w' => e = .returned (.int .i64 (vFree busy : Int)) ∧ w' = w := by
  have HB := hid hb
  have Hl := hid hl
  clear hb hl
  go_enter Try.func64, Try.ntmps64
  go_wp2_with fail
  go_loopg [3, 5, 11] n (fun gk s3 s5 s11 wx => ∃ k : Nat, k + gk = n ∧ s3 = .int .i64 (vFree (busy.take k) : Int) ∧ s11 = .int .i64 (k : Int) ∧ wx = w)
  case atStart => exact ⟨0, by omega, rfl, rfl, rfl⟩
  case round =>
    obtain ⟨k, hk, rfl, rfl, hw⟩ := hrel
    have hw := hw.symm
    subst hw
    by_cases hlt : k < n
    · have hltI : (k : Int) < (n : Int) := by omega
      obtain ⟨bb, hbb⟩ : ∃ bb, busy[k]? = some bb := ⟨_, List.getElem?_eq_getElem (by rw [Hl.out]; exact hlt)⟩
      have hcell : w.cell? ⟨gb, k, none⟩ = some (.bool bb) := by rw [HB.out.cell k, List.getElem?_map, hbb]; rfl
      have Hs := hid (vFree_snoc busy k bb hbb)
      have Hf := hid (show vFree (busy.take k) ≤ 256 from Nat.le_trans (vFree_le _) (by rw [List.length_take]; omega))
      have hf := Hf.out
      obtain ⟨c, hc⟩ : ∃ c, vFree (busy.take k) = c := ⟨_, rfl⟩
      rw [hc] at hf ⊢
      have Hc := hid hc
      have Hms := hid (show n - (k + 1) < gk ∧ k + 1 + (n - (k + 1)) = n by omega)
      clear hbb hc
      cases bb with
      | true =>
        go_wp2_with fail
        go_roundg (n - (k + 1))
        case measure => exact Hms.out.1
        case rel => exact ⟨k + 1, Hms.out.2, by rw [Hs.out, Hc.out]; rfl, by go_num, rfl⟩
      | false =>
        go_wp2_with fail
        go_roundg (n - (k + 1))
        case measure => exact Hms.out.1
        case rel => exact ⟨k + 1, Hms.out.2, by rw [Hs.out, Hc.out]; go_num, by go_num, rfl⟩
    · obtain rfl : k = n := by omega
      have hltI : ¬ (k : Int) < (k : Int) := by omega
      have e : busy.take k = busy := List.take_of_length_le (by rw [Hl.out]; omega)
      rw [e]
      clear e
      go_wp2_with fail
      go_ret
      exact ⟨rfl, rfl⟩
end Go.Proofs.Ytgiegiobigdplaa
