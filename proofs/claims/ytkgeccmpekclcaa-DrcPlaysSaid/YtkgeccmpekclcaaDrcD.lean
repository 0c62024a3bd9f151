/- slices.Delete of one element of a row of pointers. -/
import Derived.Test.YtkgeccmpekclcaaDrcC
import Derived.Test.YtkgeccmpekclcaaRowPtr
import Derived.Lib.SliceRun
namespace Go.Proofs.Ytkgeccmpekclcaa
open Go Go.RowKit
attribute [local go_sem ↓] Go.wp_at_zero Go.wp_at_succ
set_option maxRecDepth 100000

theorem ptrinfo : (Try.prog.info? 63).map (fun i => (i.zero, i.size, i.bytes)) = some (some (.pointer none), 1, 8) := by kernel_rfl
theorem ptrzero (w : World) : (zeroValue 63).run Try.prog w = .ok (.pointer none) w := by kernel_rfl

set_option maxHeartbeats 2000000 in
theorem del1_any (g n cap i j : Nat) (xs : List Value) (w : World) (h : Blk w g 63 xs) (hx : xs.length = cap) (hn : n ≤ cap) (hcap : cap ≤ 9223372036854775807) (hi : i < n) (hj : j = i + 1) (hone : ∀ u ∈ xs.take n, u.oneCell' = true) :
    Calls Try.prog 20 #[.slice (some ⟨g, 0, none⟩) n cap, .int .i64 (i : Int), .int .i64 (j : Int)] w fun e w' => e = .returned (.slice (some ⟨g, 0, none⟩) (n - 1) cap) ∧
      Blk w' g 63 (setAll (setAll xs i ((xs.take n).drop (i + 1))) (n - 1) [.pointer none]) ∧ w.grownBy w' (some g) := by
  obtain ⟨ii, hii, hz0, hz1, hz2⟩ := info_parts ptrinfo
  obtain ⟨news, hnews⟩ : ∃ l, (xs.take n).drop (i + 1) = l := ⟨_, rfl⟩
  rw [hnews]
  have hlen : news.length = n - j := by rw [← hnews]; simp; omega
  obtain ⟨n1, hn1⟩ : ∃ k, n - 1 = k := ⟨_, rfl⟩
  rw [hn1]
  have hB1 := (h.drew).setCells news i
  have hB2 := hB1.setCells [.pointer none] n1
  have hG : w.grownBy ((w.drew.setCells g i news).setCells g n1 [.pointer none]) (some g) := grown_trans (grown_trans (grown_drew w _) (grown_setCells g news _ _)) (grown_setCells g _ _ _)
  have HB2 := hid hB2
  have HG := hid hG
  obtain ⟨A, hA, hsrc⟩ : ∃ A : Addr, (if cap = j then some (⟨g, 0, none⟩ : Addr) else some ⟨g, j, none⟩) = some A ∧ ∀ t u, news[t]? = some u → w.drew.cell? (A.add t) = some u := by
    by_cases e : cap = j
    · refine ⟨⟨g, 0, none⟩, by simp [e], fun t u hu => ?_⟩
      have := (List.getElem?_eq_some_iff.1 hu).1
      omega
    · refine ⟨⟨g, j, none⟩, by simp [e], fun t u hu => ?_⟩
      rw [add_off]
      show w.cell? _ = _
      rw [h.cell (j + t)]
      rw [← hnews, List.getElem?_drop, ← hj] at hu
      have ht := (List.getElem?_eq_some_iff.1 hu).1
      rwa [List.getElem?_take_of_lt (by simp at ht; omega)] at hu
  have s1 : Hid (news.length = (n - j) * 1) := hid (by rw [Nat.mul_one]; exact hlen)
  have s2 : Hid (∀ u ∈ news, u.oneCell' = true) := hid (fun u hu => hone u (by rw [← hnews] at hu; exact List.mem_of_mem_drop hu))
  have s3 : Hid (∀ t, t < news.length → (w.drew.cell? ⟨g, 0 + i * 1 + t, none⟩).isSome = true ∧ w.drew.frozen? ⟨g, 0 + i * 1 + t, none⟩ = false) := hid (fun t ht => by
    rw [Nat.zero_add, Nat.mul_one]
    refine ⟨?_, h.frozen _⟩
    show (w.cell? _).isSome = true
    rw [h.cell, List.getElem?_eq_getElem (by omega)]
    rfl)
  have Hsrc := hid hsrc
  obtain ⟨W1, hW1⟩ : ∃ W1, w.drew.setCells g i news = W1 := ⟨_, rfl⟩
  rw [hW1] at hB1 HB2 HG
  have hcl : ∀ ty, (Builtin.clear_ #[60] ty #[.slice (some ⟨g, n1, none⟩) (n - n1) (cap - n1)]).run Try.prog W1 = .ok (.tuple #[]) (W1.setCells g n1 [.pointer none]) := fun ty => by
    have := Lib.run_clear_slice (P := Try.prog) W1 60 63 ty (.pointer none) Try.underlying60 ptrzero rfl rfl g n1 (n - n1) (cap - n1) (by omega) (fun t ht => by rw [hB1.cell, List.getElem?_eq_getElem (by rw [setAll_len]; omega)]; rfl) (fun t ht => hB1.frozen _)
    rw [show n - n1 = 1 by omega] at this ⊢
    exact this
  have HW := hid (show w.drew.setCells g (0 + i * 1) news = W1 by rw [Nat.zero_add, Nat.mul_one]; exact hW1)
  have hij : i ≤ j := by omega
  have hij2 : ¬ (i : Int) = (j : Int) := by omega
  have hjn : j ≤ n := by omega
  have hjc : j ≤ cap := by omega
  have hic : i ≤ cap := by omega
  have hn1I : n1 = i + (n - j) := by omega
  have hn1n : n1 ≤ n := by omega
  have Hj := hid hj
  have Hn1 := hid hn1
  have Hlen := hid hlen
  have Hn1I := hid hn1I
  clear hsrc hB1 hB2 hG hnews hlen hj hn1 h hW1 hone hn1I hx
  go_enter Try.func20, Try.ntmps20
  go_upto_region 5 with (fail)
  have hcn : ¬ cap = n1 := by have := Hn1.out; omega
  have hcnI : (n1 : Int) ≤ (n : Int) := by omega
  go_region_law (first
    | (refine step_append_room (by rfl) _ _ 60 (by rfl) 63 ii 1 Try.underlying60 hii hz1 g 0 i cap (by rfl) A (n - j) (cap - j) news (by rfl) s1.out Hsrc.out s2.out (by have := Hj.out; omega) s3.out ?_; rw [HW.out, ← Hn1I.out])
    | fail)
  all_goals
    go_wp2
    go_ret
    exact ⟨rfl, HB2.out, HG.out⟩

/-- .. as a row that the call owns -/
theorem delRow_any (v : Value) (vs : List Value) (base i : Nat) (w : World) (h : w.ownsRow base 63 1 v vs.length vs) (hi : i < vs.length) (hone : ∀ u ∈ vs, u.oneCell' = true) :
    Calls Try.prog 20 #[v, .int .i64 (i : Int), .int .i64 ((i : Int) + 1)] w fun e w' => ∃ v' g, v.ownBlock = some g ∧ base ≤ g ∧ g < w.heap.size ∧ (∃ xs, Blk w g 63 xs) ∧ e = .returned v' ∧
      w'.ownsRow base 63 1 v' (vs.eraseIdx i).length (vs.eraseIdx i) ∧ w.grownBy w' (some g) := by
  obtain ⟨h1, ⟨rfl, h2⟩ | ⟨g, cap, cur, rfl, hb, hg, hn, hm, hc, ht⟩⟩ := h
  · omega
  have hblk : Blk w g 63 cur.toList := by unfold Blk; simpa using hg
  have hm2 : cap ≤ 9223372036854775807 := by simpa only [maxLen] using hm
  rw [Nat.mul_one] at hc ht
  have key := del1_any g vs.length cap i (i + 1) cur.toList w hblk (by simpa using hc) hn hm2 hi rfl (by rw [ht]; exact hone)
  rw [Int.natCast_add] at key
  refine key.mono ?_
  rintro e w' ⟨rfl, hb', hg'⟩
  have hne : (vs.eraseIdx i).length = vs.length - 1 := by rw [List.length_eraseIdx, if_pos hi]
  refine ⟨_, g, rfl, hb, hblk.lt, ⟨_, hblk⟩, rfl, ⟨by omega, .inr ⟨g, cap, _, by rw [hne], hb, hb', by omega, hm, ?_, ?_⟩⟩, hg'⟩
  · simp [setAll_len]; omega
  · rw [Nat.mul_one, hne]
    have := erase_take cur.toList vs.length i (.pointer none) hi (by simp; omega)
    rw [ht] at this
    simpa [ht] using this
end Go.Proofs.Ytkgeccmpekclcaa
