/- Contracts of the document's mac and put. -/
import Derived.Test.YtefpfjdfkecjkaaEthA
namespace Go.Proofs.Ytefpfjdfkecjkaa
open Go Go.RowKit
attribute [local go_sem ↓] Go.wp_at_zero Go.wp_at_succ
set_option maxRecDepth 100000

/-- the first j of six are laid -/
def macRow (b : List UInt8) (j : Nat) : List Value := (b.take j).map u8v ++ List.replicate (6 - j) (.int .u8 0)
theorem macRow_len {b : List UInt8} {j : Nat} (hb : 6 ≤ b.length) (hj : j ≤ 6) : (macRow b j).length = 6 := by simp [macRow]; omega
theorem macRow_set {b : List UInt8} {j : Nat} (hb : 6 ≤ b.length) (hj : j < 6) : (macRow b j).set j (u8v (b[j]'(by omega))) = macRow b (j + 1) := by
  unfold macRow
  obtain ⟨q, hq⟩ : ∃ q, 6 - j = q + 1 := ⟨5 - j, by omega⟩
  rw [hq, show 6 - (j + 1) = q by omega, List.replicate_succ, take_snoc b j (by omega), List.set_append_right _ _ (by simp; omega)]
  rw [show j - ((b.take j).map u8v).length = 0 by simp; omega, List.set_cons_zero, List.map_append, List.append_assoc]
  rfl

theorem mac_any (v : Value) (b : List UInt8) (w : World) (h : Bs w v b) (hb : 6 ≤ b.length) :
    Calls Try.prog 26 #[v] w fun e w' => e = .returned (macAt b 0).val ∧ Below w.heap.size w w' := by
  have HB := hid h
  obtain ⟨n, hn⟩ : ∃ n, b.length = n := ⟨_, rfl⟩
  obtain ⟨A, cap, rfl⟩ := slice_len h hn
  have Hn := hid hn
  obtain ⟨_, hcap1, hcap2, k3⟩ := Bs.open h
  obtain ⟨g, off, rfl, hc⟩ : ∃ b' off, A = some ⟨b', off, none⟩ ∧ ∀ i, (hi : i < b.length) → w.cell? ⟨b', off + i, none⟩ = some (u8v b[i]) := by
    rcases k3 with k3 | k3
    · omega
    · exact k3
  have HC := hid hc
  have hn6 : 6 ≤ n := by omega
  clear hc hn h k3 hcap1 hcap2
  go_enter Try.func26, Try.ntmps26
  go_wp2_with fail
  have B2 := hid ((Blk.new w 23 #[.int .u8 0, .int .u8 0, .int .u8 0, .int .u8 0, .int .u8 0, .int .u8 0]).alloc (.cells #[.int .u8 0, .int .u8 0, .int .u8 0, .int .u8 0, .int .u8 0, .int .u8 0] 23))
  have B3 : Blk ((w.alloc (.cells #[.int .u8 0, .int .u8 0, .int .u8 0, .int .u8 0, .int .u8 0, .int .u8 0] 23)).alloc (.cells #[.int .u8 0, .int .u8 0, .int .u8 0, .int .u8 0, .int .u8 0, .int .u8 0] 23)) _ _ _ := Blk.new (w.alloc (.cells #[.int .u8 0, .int .u8 0, .int .u8 0, .int .u8 0, .int .u8 0, .int .u8 0] 23)) 23 #[.int .u8 0, .int .u8 0, .int .u8 0, .int .u8 0, .int .u8 0, .int .u8 0]
  rw [World.size_alloc] at B3
  have H3 := hid B3
  have HW := hid (below_alloc' (below_alloc w (.cells #[.int .u8 0, .int .u8 0, .int .u8 0, .int .u8 0, .int .u8 0, .int .u8 0] 23)) (.cells #[.int .u8 0, .int .u8 0, .int .u8 0, .int .u8 0, .int .u8 0, .int .u8 0] 23))
  clear B3
  generalize (w.alloc (.cells #[.int .u8 0, .int .u8 0, .int .u8 0, .int .u8 0, .int .u8 0, .int .u8 0] 23)).alloc (.cells #[.int .u8 0, .int .u8 0, .int .u8 0, .int .u8 0, .int .u8 0, .int .u8 0] 23) = wz at *
  obtain ⟨g3, hg3⟩ : ∃ g, w.heap.size + 1 = g := ⟨_, rfl⟩
  have Hne := hid (show w.heap.size ≠ g3 by omega)
  have Hlt := hid (show w.heap.size ≤ g3 by omega)
  rw [hg3] at H3 ⊢
  clear hg3
  go_loopw [4] (fun i wr => ∃ j : Nat, j ≤ 6 ∧ i = .int .i64 (j : Int) ∧ Blk wr g3 23 (macRow b j) ∧ Blk wr w.heap.size 23 #[.int .u8 0, .int .u8 0, .int .u8 0, .int .u8 0, .int .u8 0, .int .u8 0].toList ∧ Below w.heap.size w wr) (fun i _ => 6 - (intOf i).toNat)
  case atStart => exact ⟨0, by omega, rfl, H3.out, B2.out, HW.out⟩
  case round =>
    obtain ⟨j, hj, rfl, b3, b2, hw⟩ := hrel
    by_cases hlt : j < 6
    · have t1 : (j : Int) < 6 := by omega
      have t2 : (j : Int) < (n : Int) := by omega
      have hjb : j < b.length := by omega
      have c0 : wr.cell? ⟨g, off + j, none⟩ = some (.int .u8 (b[j].toNat : Int)) := cell_below hw (HC.out j hjb)
      have k3 := b3.cell j
      have z3 := b3.frozen j
      rw [List.getElem?_eq_getElem (by rw [macRow_len (by omega) hj]; exact hlt)] at k3
      have H4 := hid (show Blk (wr.setCell ⟨g3, j, none⟩ (.int .u8 (b[j].toNat : Int))) g3 23 (macRow b (j + 1)) by rw [← macRow_set (by omega) hlt]; exact b3.set_ j _)
      have H5 := hid (b2.far (p := ⟨g3, j, none⟩) Hne.out (.int .u8 (b[j].toNat : Int)))
      have H6 := hid (below_own hw (grown_set wr g3 j (.int .u8 (b[j].toNat : Int))) Hlt.out hw.size)
      have hj1 : IntKind.i64.wrap ((j : Int) + 1) = ((j + 1 : Nat) : Int) := by rw [IntWalk.i64_in _ (by omega)]; omega
      clear b3 b2 hw
      go_wp2_with fail
      exact ⟨⟨j + 1, by omega, rfl, H4.out, H5.out, H6.out⟩, by simp [intOf]; omega⟩
    · obtain rfl : j = 6 := by omega
      have t1 : ¬ ((6 : Nat) : Int) < 6 := by omega
      obtain ⟨b', rfl⟩ : ∃ l : List UInt8, b = l := ⟨b, rfl⟩
      obtain ⟨a0, a1, a2, a3, a4, a5, r, rfl⟩ : ∃ a0 a1 a2 a3 a4 a5 r, b = a0 :: a1 :: a2 :: a3 :: a4 :: a5 :: r := by
        have := Hn.out
        match b, this with
        | a0 :: a1 :: a2 :: a3 :: a4 :: a5 :: r, _ => exact ⟨a0, a1, a2, a3, a4, a5, r, rfl⟩
        | [], h => simp at h; omega
        | [_], h => simp at h; omega
        | [_, _], h => simp at h; omega
        | [_, _, _], h => simp at h; omega
        | [_, _, _, _], h => simp at h; omega
        | [_, _, _, _, _], h => simp at h; omega
      have b3' : Blk wr g3 23 [.int .u8 (a0.toNat : Int), .int .u8 (a1.toNat : Int), .int .u8 (a2.toNat : Int), .int .u8 (a3.toNat : Int), .int .u8 (a4.toNat : Int), .int .u8 (a5.toNat : Int)] := b3
      have d0 := b3'.cell 0
      have d1 := b3'.cell 1
      have d2 := b3'.cell 2
      have d3 := b3'.cell 3
      have d4 := b3'.cell 4
      have d5 := b3'.cell 5
      have Hb2 := hid b2
      have Hw := hid hw
      clear b3 b3' b2 hw
      go_wp2_with ((with_reducible show wpList _ _ _ (Oper.mk none _ _ _ _ _ :: _) _ _); refine wpList_storeBlk rfl _ _ _ rfl _ #[.int .u8 (a0.toNat : Int), .int .u8 (a1.toNat : Int), .int .u8 (a2.toNat : Int), .int .u8 (a3.toNat : Int), .int .u8 (a4.toNat : Int), .int .u8 (a5.toNat : Int)] rfl rfl _ _ Hb2.out macinfo rfl rfl ?_; intro w8 hblk8 hg8 hsz8; have H8 := hid hblk8; have G8 := hid hg8; clear hblk8 hg8 hsz8)
      refine ret_arr1 rfl _ _ _ _ _ rfl H8.out Try.underlying23 macinfo rfl ?_
      exact ⟨rfl, below_own Hw.out G8.out (Nat.le_refl _) Hw.out.size⟩

set_option maxHeartbeats 2000000 in
theorem put_any (v : Value) (b : List UInt8) (m : Mac) (w : World) (base : Nat) (h : OwnBs w base 5 v b) (hbase : base ≤ w.heap.size) (hsize : b.length ≤ 190000000000000) :
    Calls Try.prog 29 #[v, m.val] w fun e w' => ∃ v', e = .returned v' ∧ OwnBs w' base 5 v' (b ++ m.bytes) ∧ Below base w w' := by
  obtain ⟨a0, a1, a2, a3, a4, a5⟩ := m
  have hb6 : (Mac.mk a0 a1 a2 a3 a4 a5).bytes.length = 6 := rfl
  have Hrow := hid (Blk.new w 23 #[.int .u8 (a0.toNat : Int), .int .u8 (a1.toNat : Int), .int .u8 (a2.toNat : Int), .int .u8 (a3.toNat : Int), .int .u8 (a4.toNat : Int), .int .u8 (a5.toNat : Int)])
  have Hb := hid (h.alloc (.cells #[.int .u8 (a0.toNat : Int), .int .u8 (a1.toNat : Int), .int .u8 (a2.toNat : Int), .int .u8 (a3.toNat : Int), .int .u8 (a4.toNat : Int), .int .u8 (a5.toNat : Int)] 23))
  have Hbel := hid ((below_alloc w (.cells #[.int .u8 (a0.toNat : Int), .int .u8 (a1.toNat : Int), .int .u8 (a2.toNat : Int), .int .u8 (a3.toNat : Int), .int .u8 (a4.toNat : Int), .int .u8 (a5.toNat : Int)] 23)).mono hbase)
  have Hs := hid hsize
  have Hbase := hid hbase
  obtain ⟨M, hM⟩ : ∃ M, (Mac.mk a0 a1 a2 a3 a4 a5).bytes = M := ⟨_, rfl⟩
  have hrow : Blk (w.alloc (.cells #[.int .u8 (a0.toNat : Int), .int .u8 (a1.toNat : Int), .int .u8 (a2.toNat : Int), .int .u8 (a3.toNat : Int), .int .u8 (a4.toNat : Int), .int .u8 (a5.toNat : Int)] 23)) w.heap.size 23 (M.map u8v) := by rw [← hM]; exact Hrow.out
  have Hrow := hid hrow
  rw [hM] at hb6 ⊢
  have Hb6 := hid hb6
  obtain ⟨_, A, cap, rfl, _⟩ := Hb.out.bs
  clear hsize hM h hrow hb6 hbase
  dsimp only [Mac.val, Mac.cells]
  go_enter Try.func29, Try.ntmps29
  go_wp2_with fail
  generalize w.alloc (.cells #[.int .u8 (a0.toNat : Int), .int .u8 (a1.toNat : Int), .int .u8 (a2.toNat : Int), .int .u8 (a3.toNat : Int), .int .u8 (a4.toNat : Int), .int .u8 (a5.toNat : Int)] 23) = wz at *
  go_loopw [0, 5] (fun o i wr => ∃ j : Nat, j ≤ 6 ∧ i = .int .i64 (j : Int) ∧ Blk wr w.heap.size 23 (M.map u8v) ∧ OwnBs wr base 5 o (b ++ M.take j) ∧ Below base w wr) (fun _ i _ => 6 - (intOf i).toNat)
  case atStart => exact ⟨0, by omega, rfl, Hrow.out, by simpa using Hb.out, Hbel.out⟩
  case round =>
    obtain ⟨j, hj, rfl, b3, hown, hbw⟩ := hrel
    by_cases hlt : j < 6
    · have t1 : (j : Int) < 6 := by omega
      have hjM : j < M.length := by have := Hb6.out; omega
      have k3 : wr.cell? ⟨w.heap.size, j, none⟩ = some (.int .u8 (M[j].toNat : Int)) := by rw [b3.cell j]; simp [hjM]
      have Htk := hid (show M.take (j + 1) = M.take j ++ [M[j]] from take_snoc M j hjM)
      have hj1 : IntKind.i64.wrap ((j : Int) + 1) = ((j + 1 : Nat) : Int) := by rw [IntWalk.i64_in _ (by omega)]; omega
      have Hl := hid (show (b ++ M.take j).length ≤ 190000000000006 by have := Hs.out; rw [List.length_append, List.length_take]; omega)
      have Hown := hid hown
      have B3 := hid b3
      have Hbw := hid hbw
      generalize M[j] = x at *
      clear b3 hown hbw
      go_wp2_with ((with_reducible show wpList _ _ _ (Oper.mk (some 15) _ _ _ _ _ :: _) _ _); refine wpList_app8 _ rfl _ _ 22 rfl base 5 u8ok _ _ rfl (Hown.out.alloc _) _ [x] rfl (bs_one rfl) (by have := Hl.out; simp only [List.length_singleton]; omega) (by have := Hbase.out; have := Hbw.out.size; simp; omega) ?_; intro v3 w3 hown3 hb3 hg3 hat3; have Hown3 := hid hown3; have Hb3 := hid hb3; have Hg3 := hid hg3; clear hown3 hb3 hg3 hat3)
      go_roundw
      case rel => exact ⟨j + 1, by omega, rfl, (B3.out.alloc _).app (Hown.out.alloc _) (by decide) Hg3.out, by rw [Htk.out, ← List.append_assoc]; exact Hown3.out, (Hbw.out.alloc (Nat.le_trans Hbase.out Hbw.out.size) _).trans Hb3.out⟩
      case measure => simp [intOf]; omega
    · obtain rfl : j = 6 := by omega
      have t1 : ¬ ((6 : Nat) : Int) < 6 := by omega
      have e : M.take 6 = M := List.take_of_length_le (by have := Hb6.out; omega)
      rw [e] at hown
      have Hown := hid hown
      have Hbw := hid hbw
      clear hown hbw e b3
      go_wp2_with fail
      go_ret
      exact ⟨_, rfl, Hown.out, Hbw.out⟩
end Go.Proofs.Ytefpfjdfkecjkaa
