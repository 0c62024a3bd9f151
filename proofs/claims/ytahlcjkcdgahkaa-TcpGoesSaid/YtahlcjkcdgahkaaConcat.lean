/- Contracts of Go's slices.Grow (onto nothing) and slices.Concat, of bytes. -/
import Derived.Test.YtahlcjkcdgahkaaNumH
import Derived.Lib.AppendZerosOnto
import Derived.Lib.AppendZeros
import Derived.Deep.LoopGhost
import Derived.Deep.Cut
import Derived.Deep.CutRange
namespace Go.Proofs.Ytahlcjkcdgahkaa
open Go Go.RowKit
set_option maxRecDepth 100000

theorem grow0_any (n : Nat) (w : World) (hn : n ≤ 100000000) :
    Calls Try.prog 63 #[.slice none 0 0, .int .i64 (n : Int)] w fun e w' => ∃ v', e = .returned v' ∧ OwnBs w' w.heap.size 5 v' [] ∧ Below w.heap.size w w' := by
  have h1 : ¬ ((n : Int) < 0) := by omega
  by_cases h0 : n = 0
  · subst h0
    go_enter Try.func63, Try.ntmps63
    go_wp2_with fail
    go_ret
    exact ⟨_, rfl, OwnBs.nil _ _ _, Below.refl _ _⟩
  · have h2 : (n : Int) > 0 := by omega
    obtain ⟨i, hi, hz, hs, hb⟩ := info_parts u8info
    have hr : ∀ ty, (Builtin.append_ #[28, 3] ty #[.slice none 0 0, .int .i64 (n : Int)]).run Try.prog w = .ok (.slice (some ⟨w.heap.size, 0, none⟩) n (grownCap w n 0 5)) (w.drew.alloc (.cells (#[] ++ Builtin.zeroCells (Value.int .u8 0).cells n ++ Builtin.zeroCells (Value.int .u8 0).cells (grownCap w n 0 5 - n)) 5)) := fun ty => by
      have h := Lib.run_append_grow_zeros w 28 3 ty 5 i (.int .u8 0) .i64 .i64 Try.underlying28 Try.underlying3 hi hz none 0 0 [] (by rw [hs]; exact run_firstCells_none w.drew 1 0 0 0) n (by omega) (by omega) (by omega) (by omega) (by rw [hb]; omega)
        (by rw [hb]; have := nextslicecap_wide (need := n) (old := 0) (by omega); simp only [Nat.zero_add]; omega)
      simp only [Nat.zero_add] at h
      exact h
    have hG := grownCap_ge w n 0 5
    have hG2 := grownCap_le_maxLen w n 0 5 (by unfold maxLen; omega)
    obtain ⟨G, hGe⟩ : ∃ G, grownCap w n 0 5 = G := ⟨_, rfl⟩
    rw [hGe] at hr hG hG2
    have hG3 : G ≤ 9223372036854775807 := by unfold maxLen at hG2; omega
    have HG2 := hid hG2
    clear hi hz hs hb hG2 hGe h0
    go_enter Try.func63, Try.ntmps63
    go_wp2_with (at_builtin; refine Lib.wpList_append_run _ rfl _ _ _ _ rfl _ _ rfl rfl _ _ (hr _) ?_)
    go_ret
    refine ⟨_, rfl, ⟨rfl, .inr ⟨w.heap.size, G, _, rfl, Nat.le_refl _, heap_alloc_new w.drew _, by simp, HG2.out, ?_, by simp⟩⟩, (below_drew w).alloc (Nat.le_refl _) _⟩
    simp [size_zeroCells]
    omega
theorem slice_lenC {w : World} {v : Value} {bs : List UInt8} {n : Nat} (h : Bs w v bs) (hn : bs.length = n) : ∃ A c, v = .slice A n c := by
  subst hn
  obtain ⟨_, A, c, rfl, _⟩ := h
  exact ⟨A, c, rfl⟩
theorem flat_snoc {rows : List (List UInt8)} {k : Nat} (hk : k < rows.length) : (rows.take (k + 1)).flatten = (rows.take k).flatten ++ rows[k] := by
  rw [take_snoc rows k hk, List.flatten_append]
  simp
theorem flat_le {rows : List (List UInt8)} (k : Nat) : (rows.take k).flatten.length ≤ rows.flatten.length := by
  have : rows.flatten = (rows.take k).flatten ++ (rows.drop k).flatten := by rw [← List.flatten_append, List.take_append_drop]
  rw [this, List.length_append]
  omega
set_option maxHeartbeats 2000000 in
theorem concat_any (v : Value) (rows : List (List UInt8)) (w : World) (h : Rows8 w v rows) (hn : rows.length ≤ 100) (hl : rows.flatten.length ≤ 10000000) :
    Calls Try.prog 46 #[v] w fun e w' => ∃ v', e = .returned v' ∧ OwnBs w' w.heap.size 5 v' rows.flatten ∧ Below w.heap.size w w' := by
  obtain ⟨vs, hr, hrows⟩ := h
  obtain ⟨A, cap, rfl, k1, k2, k3, hcell⟩ := hr.cells
  obtain ⟨n, hnn⟩ : ∃ n, rows.length = n := ⟨_, rfl⟩
  rw [hnn] at k1 k2 hn ⊢
  obtain ⟨L, hL⟩ : ∃ n, rows.flatten.length = n := ⟨_, rfl⟩
  have Hn := hid hnn
  have HL := hid hL
  have Hk1 := hid k1
  have Hcell := hid hcell
  have Hrows := hid hrows
  rw [hL] at hl
  clear hr hcell hrows hnn hL k1
  go_enter Try.func46, Try.ntmps46
  go_upto_region 3 with fail
  go_loopg [3, 11] n (fun gk s i wr => ∃ k : Nat, k ≤ n ∧ gk = n - k ∧ i = .int .i64 (k : Int) ∧ s = .int .i64 ((rows.take k).flatten.length : Int) ∧ wr = w)
  case atStart => exact ⟨0, by omega, rfl, rfl, rfl, rfl⟩
  case round =>
    obtain ⟨k, hk, rfl, rfl, rfl, hwr⟩ := hrel
    have hwr := hwr.symm
    subst hwr
    by_cases hlt : k < n
    · have t1 : (k : Int) < (n : Int) := by omega
      have hkr : k < rows.length := by rw [Hn.out]; exact hlt
      have hkv : k < vs.length := by rw [Hk1.out]; exact hlt
      obtain ⟨b, off, rfl, hc⟩ := Hcell.out k hkv
      obtain ⟨Ax, cx, hx⟩ := slice_lenC (Hrows.out k vs[k] rows[k] (List.getElem?_eq_getElem hkv) (List.getElem?_eq_getElem hkr)) rfl
      rw [hx] at hc
      obtain ⟨m, hm⟩ : ∃ m, rows[k].length = m := ⟨_, rfl⟩
      rw [hm] at hc
      obtain ⟨a, ha⟩ : ∃ a, (rows.take k).flatten.length = a := ⟨_, rfl⟩
      have ham : (rows.take (k + 1)).flatten.length = a + m := by rw [flat_snoc hkr, List.length_append, ha, hm]
      have hle := flat_le (rows := rows) (k + 1)
      rw [HL.out, ham] at hle
      rw [ha]
      have Ham := hid ham
      have Hlt := hid hlt
      have t2 : ¬ ((a + m : Nat) : Int) < 0 := by omega
      clear hx hm ha ham hkr hkv
      go_wp2_with fail
      go_roundg (n - (k + 1))
      case measure => have := Hlt.out; omega
      case rel => exact ⟨k + 1, Hlt.out, rfl, by go_num, by rw [Ham.out]; go_num, rfl⟩
    · obtain rfl : k = n := by omega
      have t1 : ¬ (k : Int) < (k : Int) := by omega
      have htk : rows.take k = rows := List.take_of_length_le (by rw [Hn.out]; exact Nat.le_refl _)
      rw [htk, HL.out]
      clear htk
      go_upto_region 10 with (go_at_call 63; refine (grow0_any L w (by omega)).mono ?_; rintro e w1 ⟨v1, rfl, ho, hb⟩; have Ho := hid ho; have Hb := hid hb; clear ho hb)
      go_upto_region 11 with fail
      go_loopg [6, 27] k (fun gk s i wx => ∃ j : Nat, j ≤ k ∧ gk = k - j ∧ i = .int .i64 (j : Int) ∧ OwnBs wx w.heap.size 5 s (rows.take j).flatten ∧ Below w.heap.size w wx)
      case atStart => exact ⟨0, by omega, rfl, rfl, Ho.out, Hb.out⟩
      case round =>
        obtain ⟨j, hj, rfl, rfl, ho, hb⟩ := hrel
        have Hox := hid ho
        have Hbx := hid hb
        clear ho hb
        by_cases hlt : j < k
        · have t3 : (j : Int) < (k : Int) := by omega
          have hkr : j < rows.length := by rw [Hn.out]; exact hlt
          have hkv : j < vs.length := by rw [Hk1.out]; exact hlt
          obtain ⟨b, off, rfl, hc⟩ := Hcell.out j hkv
          have hbs := Hrows.out j vs[j] rows[j] (List.getElem?_eq_getElem hkv) (List.getElem?_eq_getElem hkr)
          have hc2 := cell_below Hbx.out hc
          obtain ⟨x, hx⟩ : ∃ x, vs[j] = x := ⟨_, rfl⟩
          rw [hx] at hbs hc2
          have Hbs := hid (hbs.below Hbx.out)
          have Hsn := hid (flat_snoc hkr)
          have hle := flat_le (rows := rows) (j + 1)
          rw [HL.out, Hsn.out, List.length_append] at hle
          have Hle := hid hle
          have Hlt := hid hlt
          clear hc hbs hx hkv hle
          go_wp2_with (at_builtin; refine wpList_app8 _ rfl _ _ 28 rfl w.heap.size 5 u8ok _ _ rfl Hox.out _ rows[j] rfl Hbs.out (by have := Hle.out; omega) Hbx.out.size ?_; intro v3 w3 hown3 hb3 hg3 hat3; have Ho3 := hid hown3; have Hb3 := hid hb3; clear hown3 hb3 hg3 hat3)
          go_roundg (k - (j + 1))
          case measure => have := Hlt.out; omega
          case rel => exact ⟨j + 1, Hlt.out, rfl, by go_num, by rw [Hsn.out]; exact Ho3.out, Hbx.out.trans Hb3.out⟩
        · obtain rfl : j = k := by omega
          have t3 : ¬ (j : Int) < (j : Int) := by omega
          have htk : rows.take j = rows := List.take_of_length_le (by rw [Hn.out]; exact Nat.le_refl _)
          rw [htk] at Hox
          clear htk
          go_wp2_with fail
          go_ret
          exact ⟨_, rfl, Hox.out, Hbx.out⟩
theorem rows_two {w : World} {e : TypeId} {mk : Nat × Nat} {x y : Value} {a b : List UInt8} {H : Nat} (h1 : Bs w x a) (h2 : Bs w y b) (hH : H = w.heap.size) :
    Rows8 (w.alloc (.cells #[x, y] e mk)) (.slice (some ⟨H, 0, none⟩) 2 2) [a, b] :=
  ⟨[x, y], row_litm #[x, y] _ 2 H rfl rfl (by decide) hH, fun i p r g1 g2 => by
    match i with
    | 0 => simp at g1 g2; subst g1; subst g2; exact h1.alloc _
    | 1 => simp at g1 g2; subst g1; subst g2; exact h2.alloc _
    | i + 2 => simp at g1⟩
end Go.Proofs.Ytahlcjkcdgahkaa
