/- The document's Add: a part that may be none. -/
import Derived.Test.YtbjiicnagfeciaaRPtU
import Derived.Deep.CutRange
namespace Go.Proofs.Ytbjiicnagfeciaa
open Go Go.RowKit
attribute [local go_sem ↓] Go.wp_at_zero Go.wp_at_succ
set_option maxRecDepth 100000

set_option maxHeartbeats 4000000 in
theorem radd_wrong (base g : Nat) (clock : Int) (l : List Wt) (m : Nat) (F : Nat → Prop) (v : Value) (p : Pk) (w : World) (h : RPt w base g clock l m F) (hb : Bs w v p.body) (hl : p.body.length ≤ 1099511627776) (hw : ¬ (p.off = 0 ∧ p.more = false)) (hwr : pWrong p = true) (hlo : -9223372036854775808 ≤ p.off) :
    Calls Try.prog 28 #[.pointer (some ⟨g, 0, none⟩), .agg (pkCells p v).toArray] w (RAddPost base g clock l m F p w) := by
  have Hp := hid (show pAdd l p = (l, pkZero, 14) by unfold pAdd; rw [if_neg hw, if_pos hwr])
  have H := hid h
  obtain ⟨src, dst, proto, id, off, more, whole, ttl, body⟩ := p
  have Hwr := hid hwr
  obtain ⟨n, hn⟩ : ∃ n, body.length = n := ⟨_, rfl⟩
  obtain ⟨A, cap, rfl⟩ := slice_len hb hn
  have hc : (off == 0) = false ∨ (off == 0) = true ∧ more = true := by
    by_cases z : off = 0
    · exact .inr ⟨by simp [z], by cases more; exact absurd ⟨z, rfl⟩ hw; rfl⟩
    · exact .inl (by simpa using z)
  have hblkp := (Blk.new w 35 #[.int .u32 (src : Int), .int .u32 (dst : Int), .int .i64 proto, .int .i64 id, .int .i64 off, .bool more, .bool whole, .int .i64 ttl, .slice A n cap]).alloc (.cells #[.int .u32 0, .int .u32 0, .int .i64 0, .int .i64 0, .int .i64 0, .bool false, .bool false, .int .i64 0, .slice none 0 0] 35)
  have hblkr := Blk.new (w.alloc (.cells #[.int .u32 (src : Int), .int .u32 (dst : Int), .int .i64 proto, .int .i64 id, .int .i64 off, .bool more, .bool whole, .int .i64 ttl, .slice A n cap] 35)) 35 #[.int .u32 0, .int .u32 0, .int .i64 0, .int .i64 0, .int .i64 0, .bool false, .bool false, .int .i64 0, .slice none 0 0]
  rw [World.size_alloc] at hblkr
  have Hblkp := hid hblkp
  have Hblkr := hid hblkr
  have Hb0 := hid (below_alloc' (below_alloc w (.cells #[.int .u32 (src : Int), .int .u32 (dst : Int), .int .i64 proto, .int .i64 id, .int .i64 off, .bool more, .bool whole, .int .i64 ttl, .slice A n cap] 35)) (.cells #[.int .u32 0, .int .u32 0, .int .i64 0, .int .i64 0, .int .i64 0, .bool false, .bool false, .int .i64 0, .slice none 0 0] 35))
  have q4 : ((w.alloc (.cells #[.int .u32 (src : Int), .int .u32 (dst : Int), .int .i64 proto, .int .i64 id, .int .i64 off, .bool more, .bool whole, .int .i64 ttl, .slice A n cap] 35)).alloc (.cells #[.int .u32 0, .int .u32 0, .int .i64 0, .int .i64 0, .int .i64 0, .bool false, .bool false, .int .i64 0, .slice none 0 0] 35)).cell? ⟨w.heap.size, 4, none⟩ = some (.int .i64 off) := hblkp.cell 4
  have q5 : ((w.alloc (.cells #[.int .u32 (src : Int), .int .u32 (dst : Int), .int .i64 proto, .int .i64 id, .int .i64 off, .bool more, .bool whole, .int .i64 ttl, .slice A n cap] 35)).alloc (.cells #[.int .u32 0, .int .u32 0, .int .i64 0, .int .i64 0, .int .i64 0, .bool false, .bool false, .int .i64 0, .slice none 0 0] 35)).cell? ⟨w.heap.size, 5, none⟩ = some (.bool more) := hblkp.cell 5
  have q8 : ((w.alloc (.cells #[.int .u32 (src : Int), .int .u32 (dst : Int), .int .i64 proto, .int .i64 id, .int .i64 off, .bool more, .bool whole, .int .i64 ttl, .slice A n cap] 35)).alloc (.cells #[.int .u32 0, .int .u32 0, .int .i64 0, .int .i64 0, .int .i64 0, .bool false, .bool false, .int .i64 0, .slice none 0 0] 35)).cell? ⟨w.heap.size, 8, none⟩ = some (.slice A n cap) := hblkp.cell 8
  have Hn := hid hn
  simp only at hlo hl
  rw [hn] at hl
  clear h hb hblkp hblkr hw
  have hwr2 := hwr
  unfold pWrong at hwr2
  simp only [hn] at hwr2
  have Hwr2 := hid hwr2
  clear hwr hwr2 hn
  dsimp only [pkCells]
  go_enter Try.func28, Try.ntmps28
  go_upto_region 1 with fail
  generalize ((w.alloc (.cells #[.int .u32 (src : Int), .int .u32 (dst : Int), .int .i64 proto, .int .i64 id, .int .i64 off, .bool more, .bool whole, .int .i64 ttl, .slice A n cap] 35)).alloc (.cells #[.int .u32 0, .int .u32 0, .int .i64 0, .int .i64 0, .int .i64 0, .bool false, .bool false, .int .i64 0, .slice none 0 0] 35)) = wz at *
  go_cut [20] from 13 to 20 (fun s20 wx => s20 = .bool false ∧ wx = wz)
  case first =>
    rcases hc with hc | ⟨hc, rfl⟩
    all_goals
      go_wp2_with fail
      go_meet
      case rel => exact ⟨rfl, rfl⟩
  case rest =>
  obtain ⟨rfl, rfl⟩ := hcut
  clear hc
  go_upto_region 3 with fail
  go_cut [64] from 25 to 64 (fun s64 wx => s64 = .bool true ∧ wx = wc)
  case first =>
    have z1 : (n : Int).tmod 8 = (n : Int) % 8 := by rw [Int.tmod_eq_emod_of_nonneg (by omega)]
    have hcs : (more = true ∧ ((n : Int) == 0) = true) ∨ (more = true ∧ ((n : Int) == 0) = false ∧ ((n : Int) % 8 != 0) = true) ∨
        ((more = false ∨ more = true ∧ ((n : Int) == 0) = false ∧ ((n : Int) % 8 != 0) = false) ∧ (off < 0 ∨ ¬ off < 0 ∧ ((off % 8 != 0) = true ∨ (off % 8 != 0) = false ∧ (off > 65515 ∨ ¬ off > 65515 ∧ (n : Int) > 65515 - off)))) := by
      have := Hwr2.out
      simp only [Bool.or_eq_true, Bool.and_eq_true, decide_eq_true_eq] at this
      simp only [beq_iff_eq, beq_eq_false_iff_ne, bne_iff_ne, bne_eq_false_iff_eq, ne_eq]
      cases more <;> simp at this ⊢ <;> omega
    clear Hwr2
    rcases hcs with ⟨rfl, h1⟩ | ⟨rfl, h1, h2⟩ | ⟨hm, hr⟩
    · go_wp2_with fail
      go_meet
      case rel => exact ⟨rfl, rfl⟩
    · go_wp2_with fail
      go_meet
      case rel => exact ⟨rfl, rfl⟩
    · rcases hm with rfl | ⟨rfl, h1, h2⟩
      all_goals
        rcases hr with h3 | ⟨h3, hr⟩
        · go_wp2_with fail
          go_meet
          case rel => exact ⟨rfl, rfl⟩
        · have z2 : off.tmod 8 = off % 8 := by rw [Int.tmod_eq_emod_of_nonneg (by omega)]
          rcases hr with h4 | ⟨h4, h5 | ⟨h5, h6⟩⟩
          · go_wp2_with fail
            go_meet
            case rel => exact ⟨rfl, rfl⟩
          · go_wp2_with fail
            go_meet
            case rel => exact ⟨rfl, rfl⟩
          · have z3 : IntKind.i64.wrap (65515 - off) = 65515 - off := IntWalk.i64_in _ (by omega)
            go_wp2_with fail
            go_meet
            case rel => exact ⟨rfl, rfl⟩
  case rest =>
  obtain ⟨rfl, rfl⟩ := hcut
  clear Hwr2
  go_wp2_with (first
    | ((with_reducible show wpList _ _ _ (Oper.mk none _ _ _ _ _ :: _) _ _); refine wpList_storeBlk rfl _ _ _ rfl _ _ rfl rfl _ _ Hblkr.out rpkinfo rfl rfl ?_; intro w9 hblk9 hg9 hsz9; have Hblk9 := hid hblk9; have Hg9 := hid hg9; clear hblk9 hg9 hsz9)
    | fail)
  refine ret_cell2 rfl (w.heap.size + 1) 35 _ _ rfl Hblk9.out Try.underlying35 rpkinfo _ rfl rfl ?_
  unfold RAddPost
  rw [Hp.out]
  have hb9 : Below w.heap.size w w9 := below_own Hb0.out Hg9.out (by omega) Hb0.out.size
  exact ⟨.slice none 0 0, rfl, OwnBs.nil _ _ _, F, (H.out.keep hb9).more, Below.frameF hb9 F, fun k hk => .inl hk⟩
end Go.Proofs.Ytbjiicnagfeciaa
