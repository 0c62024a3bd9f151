/- The chapter's example holds. -/
import Derived.Test.YtgiegiobigdplaaVnAb
namespace Go.Proofs.Ytgiegiobigdplaa
open Go Go.RowKit
attribute [local go_sem ↓] Go.wp_at_zero Go.wp_at_succ
set_option maxRecDepth 100000
set_option linter.unusedSimpArgs false
set_option linter.unusedVariables false

theorem zero8_list (n : Nat) : (zero8 n).toList = (zeros n).map u8v := by rw [zeros, List.map_replicate]; rfl
theorem mem_zero8 (w : World) (n : Nat) : MemAt (w.alloc (.cells (zero8 n) 5)) w.heap.size (zeros n) := by
  show Blk _ _ _ _
  rw [← zero8_list]
  exact Blk.new w 5 (zero8 n)
/-- what NewCard and NewPort leave, one behind the other -/
theorem start_play {w2 w3 : World} {base gm L b n gC gP gdi gdo : Nat} {I : CardIds} {M : List UInt8} (hc : CardAt w2 base gm L b n gC (vOffers b n (vNewM M b n, vq0 n) n).1 (vOffers b n (vNewM M b n, vq0 n) n).2 (vq0 n) n I)
    (hp : PortAt w3 base gm L b n gP (vOffers b n (vNewM M b n, vq0 n) n).1 ⟨0, 0⟩ ⟨0, 0⟩ gdi gdo) (hb : Below w2.heap.size w2 w3) (hn : ∀ k, portFoot gP gdi gdo k → w2.heap.size ≤ k) : VPlay w3 base gm L b n gC gP gdi gdo n I (vStart M b n) := vplay_start hc hp hb hn
theorem fits_of {L n : Nat} (hok : okN (n : Int) = true) (hL : vArea n ≤ L) : vFits L ((0 : Nat) : Int) (n : Int) = true := by
  have hn := okN_le hok
  unfold vFits
  rw [hok, vAreaI_of hok]
  simp only [Bool.and_eq_true, decide_eq_true_eq, Bool.true_and]
  constructor <;> omega
end Go.Proofs.Ytgiegiobigdplaa
