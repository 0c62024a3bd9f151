/- Nothing came early: what is taken then; numbers within. -/
import Derived.Test.YtahlcjkcdgahkaaTcpW
import Derived.Test.YtahlcjkcdgahkaaTcpWi
namespace Go.Proofs.Ytahlcjkcdgahkaa
open Go Go.RowKit
attribute [local go_sem ↓] Go.wp_at_zero Go.wp_at_succ
set_option maxRecDepth 100000

/-- k bytes came in order, none early -/
structure Flat (i : TIn) (s0 k : Nat) : Prop where
  r : i.r = (s0 + k) % 4294967296
  early : ∀ x, x < 4294967296 → i.early x = none
  told : i.told = false
  done : i.done = false
theorem Flat.strm {i : TIn} {s0 k : Nat} (h : Flat i s0 k) (S : List UInt8) (hl : S.length ≤ 1073741824) (hk : k ≤ S.length) : Strm i s0 S k (fun _ => false) :=
  ⟨h.r, fun x hx => by rw [h.early x hx]; simp, (fun j hj => by cases hj), h.told, h.done, hl, hk⟩
theorem Strm.flat {i : TIn} {s0 k : Nat} {S : List UInt8} {P : Nat → Bool} (h : Strm i s0 S k P) (hP : ∀ j, k ≤ j → P j = false) : Flat i s0 k :=
  ⟨h.r, fun x hx => by rw [h.early x hx, if_neg (by intro q; have := q.2; rw [hP _ (Nat.le_add_right _ _)] at this; cases this)], h.told, h.done⟩
theorem runP_seg (P : Nat → Bool) (k l f : Nat) (hP : ∀ j, k ≤ j → (P j = true ↔ j < k + l)) (hf : l < f) : runP P f k = k + l := by
  have h1 := runP_all P f k
  have h2 := runP_end P f k
  have h3 := runP_ge P f k
  generalize runP P f k = r at *
  rcases Nat.lt_trichotomy r (k + l) with h | h | h
  · have h4 := h2 (by omega)
    have := (hP r h3).2 h
    rw [h4] at this
    cases this
  · exact h
  · have := (hP (k + l) (by omega)).1 (h1 (k + l) (by omega) h)
    omega
/-- the next bytes come -/
theorem take_flat {i : TIn} {s0 k : Nat} (h : Flat i s0 k) (s : TSeg) (hs : s.seq = (s0 + k) % 4294967296) (hf : tBit s.flags 1 = false) (hl : k + s.data.length ≤ 1073741824) :
    Flat (tFlow (tNote i s)) s0 (k + min s.data.length i.q) ∧ (tFlow (tNote i s)).ready = i.ready ++ s.data.take (min s.data.length i.q) := by
  obtain ⟨S, hS⟩ : ∃ S, List.replicate k (0 : UInt8) ++ s.data = S := ⟨_, rfl⟩
  have hSl : S.length = k + s.data.length := by rw [← hS]; simp
  obtain ⟨h1, h2⟩ := take_strm (h.strm S (by omega) (by omega)) (fun j hj => by cases hj) s k hs (fun j b hb => by rw [← hS, List.getElem?_append_right (by simp)]; simpa using hb) hf
  have hP : ∀ j, k ≤ j → (addP (fun _ => false) k i.q k s.data.length j = true ↔ j < k + min s.data.length i.q) := by
    intro j hj
    rw [addP_iff]
    simp only [Bool.false_eq_true, false_or]
    omega
  rw [runP_seg _ k (min s.data.length i.q) (i.q + 1) hP (by omega)] at h1 h2
  refine ⟨h1.flat fun j hj => ?_, ?_⟩
  · rw [← Bool.not_eq_true]
    intro q
    have := (hP j (by omega)).1 q
    omega
  · rw [h2]
    congr 1
    rw [← hS, List.drop_append_of_le_length (by simp)]
    simp
/-- bytes beyond the window are not taken -/
theorem take_far {i : TIn} {s0 k : Nat} (h : Flat i s0 k) (s : TSeg) (p : Nat) (hs : s.seq = (s0 + p) % 4294967296) (hf : tBit s.flags 1 = false) (hp : k + i.q ≤ p) (hl : p + s.data.length ≤ 1073741824) :
    Flat (tFlow (tNote i s)) s0 k ∧ (tFlow (tNote i s)).ready = i.ready := by
  obtain ⟨S, hS⟩ : ∃ S, List.replicate p (0 : UInt8) ++ s.data = S := ⟨_, rfl⟩
  have hSl : S.length = p + s.data.length := by rw [← hS]; simp
  obtain ⟨h1, h2⟩ := take_strm (h.strm S (by omega) (by omega)) (fun j hj => by cases hj) s p hs (fun j b hb => by rw [← hS, List.getElem?_append_right (by simp)]; simpa using hb) hf
  have hP : ∀ j, k ≤ j → (addP (fun _ => false) k i.q p s.data.length j = true ↔ j < k + 0) := by
    intro j hj
    rw [addP_iff]
    simp only [Bool.false_eq_true, false_or]
    omega
  rw [runP_seg _ k 0 (i.q + 1) hP (by omega)] at h1 h2
  refine ⟨h1.flat fun j hj => ?_, by rw [h2]; simp⟩
  rw [← Bool.not_eq_true]
  intro q
  have := (hP j (by omega)).1 q
  omega
theorem flat_open (seq first : Nat) (window : Int) : Flat (tOpen seq first window).inn ((seq + 1) % 4294967296) 0 :=
  ⟨by show (seq + 1) % 4294967296 = _; omega, fun _ _ => rfl, rfl, rfl⟩
theorem flat_recv {i : TIn} {s0 k : Nat} (h : Flat i s0 k) : Flat { i with ready := [] } s0 k := ⟨h.r, h.early, h.told, h.done⟩
/-- one segment went out: its cells -/
theorem OwnSgL.one_at {w : World} {base : Nat} {v : Value} {s : TSeg} (h : OwnSgL w base v [s]) : ∃ b cap vs, v = .slice (some ⟨b, 0, none⟩) 1 cap ∧ base ≤ b ∧ ∀ j, j < 8 → w.cell? ⟨b, j, none⟩ = (s.cells vs)[j]? := by
  obtain ⟨qs, ho, hl⟩ := h
  obtain ⟨sg, rfl⟩ : ∃ q, qs = [q] := by
    have h1 := congrArg List.length hl
    simp at h1
    exact List.length_eq_one_iff.1 h1
  obtain ⟨b, cap, rfl, hb1, _, hcell⟩ := ho.at (by simp)
  refine ⟨b, cap, sg.2, rfl, hb1, fun j hj => ?_⟩
  have h0 : sg.1 = s := by simpa using hl
  have := hcell 0 (by simp) j hj
  simp at this
  rw [this, h0]
theorem OwnSgL.nil_at {w : World} {base : Nat} {v : Value} (h : OwnSgL w base v []) : ∃ A cap, v = .slice A 0 cap := by
  obtain ⟨qs, ho, hl⟩ := h
  obtain rfl : qs = [] := List.map_eq_nil_iff.1 hl
  obtain ⟨_, A, c, rfl, _, _, _⟩ := RowN.of_own ho.row
  exact ⟨A, c, rfl⟩
end Go.Proofs.Ytahlcjkcdgahkaa
