/- The law's known of chapter 13. -/
import Derived.Test.YtbjiicnagfeciaaIpCutC
import Derived.Test.YtbjiicnagfeciaaIpHelp
import Derived.Test.YtbjiicnagfeciaaRegion2
namespace Go.Proofs.Ytbjiicnagfeciaa
open Go Go.RowKit
set_option maxRecDepth 100000

/-- a slice of packets as it stands: its block, the values of its bodies -/
theorem pkl_open {w : World} {base : Nat} {E U : TypeId} {v : Value} {l : List Pk} {n : Nat} (h : OwnPkL w base E U v l) (hn : l.length = n) (hl : 0 < n) :
    ∃ (g cap : Nat) (vs : List Value), v = .slice (some ⟨g, 0, none⟩) n cap ∧ n ≤ cap ∧ vs.length = n ∧ base ≤ g ∧ g < w.heap.size ∧
      ∀ (i : Nat) (hi : i < l.length) (hv : i < vs.length), OwnBs w base U vs[i] l[i].body ∧ w.rangeAt g (i * 9) (pkCells l[i] vs[i]) := by
  obtain ⟨qs, ⟨hb, hrow⟩, rfl⟩ := h
  have hq : qs.length = n := by simpa using hn
  subst hq
  rcases hrow.2 with ⟨_, h0⟩ | ⟨g, cap, cur, rfl, hbg, hg, h1, h2, h3, h4⟩
  · omega
  refine ⟨g, cap, qs.map Prod.snd, rfl, h1, by simp, hbg, (Array.getElem?_eq_some_iff.1 hg).1, fun i hi hv => ?_⟩
  simp only [List.getElem_map]
  refine ⟨hb _ (List.getElem_mem _), fun j x hx => ?_⟩
  have hj : j < 9 := by have := (List.getElem?_eq_some_iff.1 hx).1; simpa [pkCells_len] using this
  have e := pkRow_at qs i j (by simpa using hi) hj
  rw [hx, ← h4] at e
  have hblk : Blk w g E cur.toList := by unfold Blk; simpa using hg
  rw [hblk.cell]
  rw [List.getElem?_take_of_lt (by omega)] at e
  rw [Nat.mul_comm]
  exact e

theorem list3 {α : Type} {l : List α} (h : l.length = 3) : ∃ a b c, l = [a, b, c] := by
  match l, h with
  | [a, b, c], _ => exact ⟨a, b, c, rfl⟩
theorem known_cut (n : Nat) (hn : n = 3000) : ipCut ⟨0, 0, 0, 0, 0, false, false, 0, List.replicate n 0⟩ 1500 = (partsOf ⟨0, 0, 0, 0, 0, false, false, 0, List.replicate n 0⟩ 1480 [0, 1, 2], 0) := by
  have h1 : ipSize 1500 = 1480 := by decide
  subst hn
  simp only [ipCut, List.length_replicate, h1]
  rw [if_neg (by decide), if_neg (by decide), if_neg (by decide), if_neg (by decide)]
  rfl

set_option maxHeartbeats 1000000 in
theorem known_any (w : World) :
    Calls Try.prog 10 #[] w fun e w' => e = .returned (.bool true) ∧ Below w.heap.size w w' := by
  obtain ⟨n, hn⟩ : ∃ n, n = 3000 := ⟨_, rfl⟩
  have Hn := hid hn
  have hmk := run_make8 u8ok .i64 .i64 3000 n (by omega) (by omega)
  have hz : Bs (w.alloc (.cells (zero8 n) 5)) (.slice (some ⟨w.heap.size, 0, none⟩) n n) (List.replicate n 0) := bs_litm (zero8 n) (List.replicate n 0) n _ (by simp [zero8]) (by simp) (by omega) rfl
  have Hz := hid hz
  have Hk := hid (known_cut n hn)
  clear hz hn
  go_enter Try.func10, Try.ntmps10
  go_wp2_with (first
    | ((go_at_call 11; refine (ipCut_any (.slice (some ⟨w.heap.size, 0, none⟩) n n) ⟨0, 0, 0, 0, 0, false, false, 0, List.replicate n 0⟩ 1500 _ Hz.out (by decide) (by decide)).mono ?_; rintro e w' ⟨v, rfl, hown, hb⟩); rw [Hk.out] at hown ⊢; simp only at hown ⊢; have Hown := hid hown; have Hb := hid ((below_alloc w _).trans (hb.mono (by simp))); obtain ⟨g, cap, vs, rfl, hcap, hvl, hbg, hgl, hat⟩ := pkl_open hown (n := 3) rfl (by decide); obtain ⟨v0, v1, v2, rfl⟩ : ∃ a b c, vs = [a, b, c] := list3 hvl; have r0 := hat 0 (by simp [partsOf_len]) (by simp); have r1 := hat 1 (by simp [partsOf_len]) (by simp); have r2 := hat 2 (by simp [partsOf_len]) (by simp); have q0 := slice_len r0.1.bs (show _ = 1480 by have := Hn.out; simp [partsOf, partOf]; omega); have q2 := slice_len r2.1.bs (show _ = 40 by have := Hn.out; simp [partsOf, partOf]; omega); simp only [List.getElem_cons_zero, List.getElem_cons_succ] at q0 q2; obtain ⟨A0, c0, rfl⟩ := q0; obtain ⟨A2, c2, rfl⟩ := q2; have c08 : w'.cell? ⟨g, 8, none⟩ = some (.slice A0 1480 c0) := r0.2 8 _ rfl; have c28 : w'.cell? ⟨g, 26, none⟩ = some (.slice A2 40 c2) := r2.2 8 _ rfl; have c14 : w'.cell? ⟨g, 13, none⟩ = some (.int .i64 1480) := r1.2 4 _ rfl; have c25 : w'.cell? ⟨g, 23, none⟩ = some (.bool false) := (r2.2 5 _ rfl).trans (by have := Hn.out; simp [partsOf, partOf]; omega); clear hown hb r0 r1 r2 hat))
  go_ret
  exact ⟨rfl, Hb.out⟩
end Go.Proofs.Ytbjiicnagfeciaa
