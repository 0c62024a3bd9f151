/- A stream that comes in pieces: what is noted, what flows. No program is walked here. -/
import Derived.Test.YtahlcjkcdgahkaaTcpP
namespace Go.Proofs.Ytahlcjkcdgahkaa
open Go Go.RowKit

/-- the stream S begins at s0; k bytes came in order; P: what came early (or before) -/
structure Strm (i : TIn) (s0 : Nat) (S : List UInt8) (k : Nat) (P : Nat → Bool) : Prop where
  r : i.r = (s0 + k) % 4294967296
  early : ∀ x, x < 4294967296 → i.early x = if mSub x i.r < 16384 ∧ P (k + mSub x i.r) = true then S[k + mSub x i.r]? else none
  win : ∀ j, P j = true → k ≤ j → j - k < i.q
  told : i.told = false
  done : i.done = false
  len : S.length ≤ 1073741824
  kl : k ≤ S.length
def runP (P : Nat → Bool) : Nat → Nat → Nat
  | 0, k => k
  | f + 1, k => if P k = true then runP P f (k + 1) else k
theorem runP_ge (P : Nat → Bool) (f : Nat) : ∀ k, k ≤ runP P f k := by
  induction f with
  | zero => exact fun k => Nat.le_refl _
  | succ f ih =>
    intro k
    unfold runP
    split
    · exact Nat.le_trans (Nat.le_succ k) (ih (k + 1))
    · exact Nat.le_refl _
theorem runP_le (P : Nat → Bool) (f : Nat) : ∀ k, runP P f k ≤ k + f := by
  induction f with
  | zero => exact fun k => Nat.le_refl _
  | succ f ih =>
    intro k
    unfold runP
    split
    · have := ih (k + 1); omega
    · omega
theorem runP_all (P : Nat → Bool) (f : Nat) : ∀ k j, k ≤ j → j < runP P f k → P j = true := by
  induction f with
  | zero => exact fun k j h1 h2 => absurd h2 (by unfold runP; omega)
  | succ f ih =>
    intro k j h1 h2
    unfold runP at h2
    split at h2
    · rename_i hp
      by_cases e : j = k
      · rw [e]; exact hp
      · exact ih (k + 1) j (by omega) h2
    · omega
theorem runP_end (P : Nat → Bool) (f : Nat) : ∀ k, runP P f k < k + f → P (runP P f k) = false := by
  induction f with
  | zero => intro k h; unfold runP at h; omega
  | succ f ih =>
    intro k h
    unfold runP at h ⊢
    split
    · rename_i hp
      rw [if_pos hp] at h
      exact ih (k + 1) (by omega)
    · rename_i hp
      simpa using hp
theorem flow_strm (s0 : Nat) (S : List UInt8) (P : Nat → Bool) (hP : ∀ j, P j = true → j < S.length) (f : Nat) : ∀ (k : Nat) (i : TIn), Strm i s0 S k P →
    Strm (tFlowN f i) s0 S (runP P f k) P ∧ (tFlowN f i).ready = i.ready ++ (S.drop k).take (runP P f k - k) ∧ (tFlowN f i).fin = i.fin := by
  induction f with
  | zero => intro k i h; exact ⟨h, by simp [tFlowN, runP], rfl⟩
  | succ f ih =>
    intro k i h
    have hr := h.early i.r (by rw [h.r]; exact Nat.mod_lt _ (by decide))
    rw [mSub_self, Nat.add_zero] at hr
    unfold tFlowN runP
    rw [if_neg (by rw [h.done]; simp), if_neg (by rw [h.told]; simp)]
    by_cases hp : P k = true
    · have hk := hP k hp
      rw [if_pos ⟨by decide, hp⟩, List.getElem?_eq_getElem hk] at hr
      rw [if_pos hp, hr]
      have hq : 0 < i.q := by have := h.win k hp (Nat.le_refl _); omega
      have hq' : i.q ≤ 16384 := by unfold TIn.q; omega
      have hrl : i.r < 4294967296 := by rw [h.r]; exact Nat.mod_lt _ (by decide)
      have h2 : Strm { i with early := fun x => if x = i.r then none else i.early x, ready := i.ready ++ [S[k]], r := (i.r + 1) % 4294967296 } s0 S (k + 1) P := by
        refine ⟨by show (i.r + 1) % 4294967296 = _; rw [h.r]; omega, fun x hx => ?_, fun j hj hkj => ?_, h.told, h.done, h.len, by omega⟩
        · show (if x = i.r then none else i.early x) = if mSub x ((i.r + 1) % 4294967296) < 16384 ∧ P (k + 1 + mSub x ((i.r + 1) % 4294967296)) = true then S[k + 1 + mSub x ((i.r + 1) % 4294967296)]? else none
          by_cases e : x = i.r
          · rw [if_pos e, if_neg]
            intro q
            have := q.1
            unfold mSub at this
            omega
          · rw [if_neg e, h.early x hx]
            have hd : mSub x i.r = mSub x ((i.r + 1) % 4294967296) + 1 := by unfold mSub; omega
            have h3 : k + mSub x i.r = k + 1 + mSub x ((i.r + 1) % 4294967296) := by omega
            rw [h3]
            by_cases hPd : P (k + 1 + mSub x ((i.r + 1) % 4294967296)) = true
            · have := h.win _ hPd (by omega)
              rw [if_pos ⟨by omega, hPd⟩, if_pos ⟨by omega, hPd⟩]
            · rw [if_neg (fun q => hPd q.2), if_neg (fun q => hPd q.2)]
        · have := h.win j hj (by omega)
          show j - (k + 1) < TIn.q _
          unfold TIn.q at *
          simp only [List.length_append, List.length_singleton]
          omega
      obtain ⟨a, b, c⟩ := ih (k + 1) _ h2
      refine ⟨a, ?_, c⟩
      rw [b]
      have hge := runP_ge P f (k + 1)
      show i.ready ++ [S[k]] ++ _ = _
      rw [List.append_assoc]
      congr 1
      rw [List.drop_eq_getElem_cons hk, show runP P f (k + 1) - k = (runP P f (k + 1) - (k + 1)) + 1 by omega]
      rfl
    · rw [if_neg (fun q => hp q.2)] at hr
      rw [if_neg hp, hr]
      exact ⟨h, by simp, rfl⟩
/-- what a piece adds -/
def addP (P : Nat → Bool) (k q p l : Nat) : Nat → Bool := fun j => P j || (decide (p ≤ j) && decide (j < p + l) && decide (k ≤ j) && decide (j - k < q))
theorem if_iff {α : Type} {a b : Prop} [Decidable a] [Decidable b] {x y : α} (h : a ↔ b) : (if a then x else y) = (if b then x else y) := by
  by_cases ha : a
  · rw [if_pos ha, if_pos (h.1 ha)]
  · rw [if_neg ha, if_neg (fun hb => ha (h.2 hb))]
theorem addP_iff (P : Nat → Bool) (k q p l j : Nat) : addP P k q p l j = true ↔ P j = true ∨ (p ≤ j ∧ j < p + l ∧ k ≤ j ∧ j - k < q) := by
  unfold addP
  simp only [Bool.or_eq_true, Bool.and_eq_true, decide_eq_true_eq, and_assoc]
theorem put_strm (s0 : Nat) (S : List UInt8) (k q r p : Nat) (hr : r = (s0 + k) % 4294967296) (hl : S.length ≤ 1073741824) (hk : k ≤ S.length) (hq : q ≤ 16384) : ∀ (l : List UInt8) (e : Nat → Option UInt8) (P : Nat → Bool) (i : Nat),
    (∀ x, x < 4294967296 → e x = if mSub x r < 16384 ∧ P (k + mSub x r) = true then S[k + mSub x r]? else none) → (∀ j, P j = true → j < S.length) →
    (∀ j b, l[j]? = some b → S[p + i + j]? = some b) →
    (∀ x, x < 4294967296 → earlyPut e r q ((s0 + p) % 4294967296) l i x = if mSub x r < 16384 ∧ addP P k q (p + i) l.length (k + mSub x r) = true then S[k + mSub x r]? else none) := by
  intro l
  induction l with
  | nil =>
    intro e P i he _ _ x hx
    show e x = _
    rw [he x hx]
    refine if_iff ?_
    simp only [List.length_nil, addP_iff]
    constructor
    · exact fun h => ⟨h.1, .inl h.2⟩
    · rintro ⟨h1, h2 | h2⟩
      · exact ⟨h1, h2⟩
      · omega
  | cons b l ih =>
    intro e P i he hP hS x hx
    have hb := hS 0 b rfl
    rw [Nat.add_zero] at hb
    have hpi : p + i < S.length := (List.getElem?_eq_some_iff.1 hb).1
    have hrl : r < 4294967296 := by rw [hr]; exact Nat.mod_lt _ (by decide)
    have hx0 : ((s0 + p) % 4294967296 + i) % 4294967296 = (s0 + (p + i)) % 4294967296 := by omega
    have h1 : ∀ y, y < 4294967296 → (fun y => if y = ((s0 + p) % 4294967296 + i) % 4294967296 ∧ e y = none ∧ (((s0 + p) % 4294967296 + i) % 4294967296 + 4294967296 - r) % 4294967296 < q then some b else e y) y =
        if mSub y r < 16384 ∧ addP P k q (p + i) 1 (k + mSub y r) = true then S[k + mSub y r]? else none := by
      intro y hy
      simp only
      have hy0 := he y hy
      rw [hx0]
      have hdd : mSub ((s0 + (p + i)) % 4294967296) r < q → k + mSub ((s0 + (p + i)) % 4294967296) r = p + i := by
        intro h
        unfold mSub at *
        omega
      by_cases ey : y = (s0 + (p + i)) % 4294967296
      · by_cases hd : mSub y r < q
        · have hkd : k + mSub y r = p + i := by rw [ey]; exact hdd (by rw [← ey]; exact hd)
          have hadd : addP P k q (p + i) 1 (k + mSub y r) = true := by
            rw [addP_iff]
            exact .inr (by omega)
          rw [if_pos (show mSub y r < 16384 ∧ _ from ⟨by omega, hadd⟩), hkd, hb]
          cases hey : e y with
          | none =>
            rw [if_pos ⟨ey, rfl, by rw [← ey]; exact hd⟩]
          | some z =>
            rw [if_neg (fun q => by cases q.2.1)]
            rw [hey] at hy0
            split at hy0
            · rw [hkd, hb] at hy0; exact hy0
            · cases hy0
        · rw [if_neg (fun q => hd (by rw [ey]; exact q.2.2)), hy0]
          refine if_iff ?_
          rw [addP_iff]
          constructor
          · exact fun h => ⟨h.1, .inl h.2⟩
          · rintro ⟨h1, h2 | h2⟩
            · exact ⟨h1, h2⟩
            · omega
      · rw [if_neg (fun q => ey q.1), hy0]
        by_cases h16 : mSub y r < 16384
        · refine if_iff ?_
          rw [addP_iff]
          constructor
          · exact fun h => ⟨h.1, .inl h.2⟩
          · rintro ⟨h1, h2 | h2⟩
            · exact ⟨h1, h2⟩
            · exfalso
              apply ey
              have h4 : k + mSub y r = p + i := by omega
              rw [← h4]
              unfold mSub
              omega
        · rw [if_neg (fun q => h16 q.1), if_neg (fun q => h16 q.1)]
    have hP1 : ∀ j, addP P k q (p + i) 1 j = true → j < S.length := by
      intro j hj
      rw [addP_iff] at hj
      rcases hj with hj | hj
      · exact hP j hj
      · omega
    have := ih _ (addP P k q (p + i) 1) (i + 1) h1 hP1 (fun j c hc => by
      have := hS (j + 1) c hc
      rw [show p + (i + 1) + j = p + i + (j + 1) by omega]
      exact this) x hx
    show earlyPut _ r q _ l (i + 1) x = _
    rw [this]
    have e2 : addP (addP P k q (p + i) 1) k q (p + (i + 1)) l.length = addP P k q (p + i) (b :: l).length := by
      funext j
      rw [Bool.eq_iff_iff]
      simp only [List.length_cons, addP_iff]
      constructor
      · rintro ((h | h) | h)
        · exact .inl h
        · exact .inr (by omega)
        · exact .inr (by omega)
      · rintro (h | h)
        · exact .inl (.inl h)
        · by_cases h0 : j = p + i
          · exact .inl (.inr (by omega))
          · exact .inr (by omega)
    rw [e2]
/-- a piece of the stream is noted, and what is in order flows -/
theorem take_strm {i : TIn} {s0 : Nat} {S : List UInt8} {k : Nat} {P : Nat → Bool} (h : Strm i s0 S k P) (hP : ∀ j, P j = true → j < S.length) (s : TSeg) (p : Nat) (hs : s.seq = (s0 + p) % 4294967296) (hd : ∀ j b, s.data[j]? = some b → S[p + j]? = some b) (hf : tBit s.flags 1 = false) :
    Strm (tFlow (tNote i s)) s0 S (runP (addP P k i.q p s.data.length) (i.q + 1) k) (addP P k i.q p s.data.length) ∧
    (tFlow (tNote i s)).ready = i.ready ++ (S.drop k).take (runP (addP P k i.q p s.data.length) (i.q + 1) k - k) := by
  have hq : i.q ≤ 16384 := by unfold TIn.q; omega
  have hn : tNote i s = { i with early := earlyPut i.early i.r i.q s.seq s.data 0 } := by
    unfold tNote
    rw [if_neg (by rw [hf]; simp)]
  have hput := put_strm s0 S k i.q i.r p h.r h.len h.kl hq s.data i.early P 0 h.early hP (fun j b hb => by rw [Nat.add_zero]; exact hd j b hb)
  have h1 : Strm (tNote i s) s0 S k (addP P k i.q p s.data.length) := by
    rw [hn]
    refine ⟨h.r, fun x hx => ?_, fun j hj hkj => ?_, h.told, h.done, h.len, h.kl⟩
    · have := hput x hx
      rw [Nat.add_zero] at this
      show earlyPut i.early i.r i.q s.seq s.data 0 x = _
      rw [hs]
      exact this
    · unfold addP at hj
      simp only [Bool.or_eq_true, Bool.and_eq_true, decide_eq_true_eq] at hj
      rcases hj with hj | hj
      · exact h.win j hj hkj
      · exact hj.2
  have hP1 : ∀ j, addP P k i.q p s.data.length j = true → j < S.length := by
    intro j hj
    rw [addP_iff] at hj
    rcases hj with hj | hj
    · exact hP j hj
    · have : j - p < s.data.length := by omega
      have h2 := hd (j - p) _ (List.getElem?_eq_getElem this)
      have := (List.getElem?_eq_some_iff.1 h2).1
      omega
  obtain ⟨a, b, _⟩ := flow_strm s0 S _ hP1 (i.q + 1) k _ h1
  have hq2 : (tNote i s).q = i.q := by rw [hn]; rfl
  have e : tFlow (tNote i s) = tFlowN (i.q + 1) (tNote i s) := by unfold tFlow; rw [hq2]
  rw [e]
  refine ⟨a, ?_⟩
  rw [b, hn]
end Go.Proofs.Ytahlcjkcdgahkaa
