/- What goes out may be written; its acknowledgement never goes back. No program is walked here. -/
import Derived.Test.YtahlcjkcdgahkaaTcpX
import Derived.Test.YtahlcjkcdgahkaaSegS
namespace Go.Proofs.Ytahlcjkcdgahkaa
open Go Go.RowKit

/-- a segment of a connection -/
structure OfConn (c : TConn) (s : TSeg) : Prop where
  src : s.src = c.src
  dst : s.dst = c.dst
  ack : s.ack = c.inn.r
  window : s.window = 16384 - (c.inn.ready.length : Int)
  flags : s.flags = 16 ∨ s.flags = 17 ∨ s.flags = 18 ∨ s.flags = 20 ∨ s.flags = 24
  mss : s.mss = 0 ∨ s.mss = 1460
  len : (s.data.length : Int) ≤ c.out.m ∨ s.data.length ≤ 1
  seq : s.seq < 4294967296
/-- the same connection, what came in untouched -/
structure SameIn (c c' : TConn) : Prop where
  src : c'.src = c.src
  dst : c'.dst = c.dst
  inn : c'.inn = c.inn
  m : c'.out.m = c.out.m
  u : c'.out.u = c.out.u
  n : c.out.n < 4294967296 → c'.out.n < 4294967296
theorem SameIn.refl (c : TConn) : SameIn c c := ⟨rfl, rfl, rfl, rfl, rfl, id⟩
theorem SameIn.trans {a b c : TConn} (h : SameIn a b) (k : SameIn b c) : SameIn a c := ⟨k.src.trans h.src, k.dst.trans h.dst, k.inn.trans h.inn, k.m.trans h.m, k.u.trans h.u, fun q => k.n (h.n q)⟩
theorem OfConn.same {c c' : TConn} {s : TSeg} (h : OfConn c' s) (k : SameIn c c') : OfConn c s :=
  ⟨h.src.trans k.src, h.dst.trans k.dst, h.ack.trans (by rw [k.inn]), h.window.trans (by rw [k.inn]), h.flags, h.mss, by rw [← k.m]; exact h.len, h.seq⟩
theorem ofConn_seg (c : TConn) (seq : Nat) (fl : Int) (data : List UInt8) (hf : fl = 16 ∨ fl = 17 ∨ fl = 18 ∨ fl = 20 ∨ fl = 24) (hl : (data.length : Int) ≤ c.out.m ∨ data.length ≤ 1) (hq : seq < 4294967296) : OfConn c (tSegment c seq fl data) :=
  ⟨rfl, rfl, rfl, rfl, hf, .inl rfl, hl, hq⟩
theorem freshN_of (k : Nat) : ∀ c, c.out.n < 4294967296 → (∀ s ∈ (tFreshN k c).1, OfConn c s) ∧ SameIn c (tFreshN k c).2 := by
  induction k with
  | zero => intro c hn; exact ⟨fun s h => (by cases h), SameIn.refl c⟩
  | succ k ih =>
    intro c hn
    unfold tFreshN
    split
    · obtain ⟨h1, h2⟩ := ih { c with out := { c.out with n := (c.out.n + c.room.toNat) % 4294967296 } } (Nat.mod_lt _ (by decide))
      have hs : SameIn c { c with out := { c.out with n := (c.out.n + c.room.toNat) % 4294967296 } } := ⟨rfl, rfl, rfl, rfl, rfl, fun _ => Nat.mod_lt _ (by decide)⟩
      refine ⟨fun s h => ?_, hs.trans h2⟩
      rcases List.mem_cons.1 h with rfl | h
      · refine ofConn_seg c _ _ _ (by split <;> simp) (.inl ?_) hn
        have : c.room ≤ c.out.m := Int.min_le_left _ _
        rw [List.length_take]
        omega
      · exact (h1 s h).same hs
    · exact ⟨fun s h => (by cases h), SameIn.refl c⟩
theorem resent_of (c : TConn) (hm : 0 ≤ c.out.m) (hu : c.out.u < 4294967296) : (∀ s ∈ (tResent c).1, OfConn c s) ∧ SameIn c (tResent c).2 := by
  unfold tResent
  split
  · refine ⟨fun s h => ?_, SameIn.refl c⟩
    rw [List.mem_singleton] at h
    subst h
    refine ofConn_seg c _ _ _ (.inl rfl) (.inl ?_) hu
    rw [List.length_take]
    omega
  split
  · refine ⟨fun s h => ?_, SameIn.refl c⟩
    rw [List.mem_singleton] at h
    subst h
    exact ofConn_seg c _ _ _ (.inr (.inl rfl)) (.inr (by simp)) (Nat.mod_lt _ (by decide))
  split
  · refine ⟨fun s h => ?_, ⟨rfl, rfl, rfl, rfl, rfl, fun _ => Nat.mod_lt _ (by decide)⟩⟩
    rw [List.mem_singleton] at h
    subst h
    exact ofConn_seg c _ _ _ (.inl rfl) (.inr (by simp; omega)) hu
  · exact ⟨fun s h => (by cases h), SameIn.refl c⟩
theorem out_of (c : TConn) (hm : 0 ≤ c.out.m) (hu : c.out.u < 4294967296) (hn : c.out.n < 4294967296) : (∀ s ∈ (tOut c).1, OfConn c s) ∧ SameIn c (tOut c).2 := by
  unfold tOut
  split
  · exact ⟨fun s h => (by cases h), SameIn.refl c⟩
  split
  · refine ⟨fun s h => ?_, ⟨rfl, rfl, rfl, rfl, rfl, id⟩⟩
    rw [List.mem_singleton] at h
    subst h
    exact ofConn_seg c _ _ _ (.inr (.inr (.inr (.inl rfl)))) (.inr (by simp)) hn
  · have hA : ∀ s ∈ tOutA c, OfConn c s := by
      intro s h
      unfold tOutA at h
      split at h
      · rw [List.mem_singleton] at h
        subst h
        exact ⟨rfl, rfl, rfl, rfl, .inr (.inr (.inl rfl)), .inr rfl, .inr (by simp [tSegment]), hu⟩
      · cases h
    have hB : (∀ s ∈ (tOutB c).1, OfConn c s) ∧ SameIn c (tOutB c).2 := by
      unfold tOutB
      split
      · exact resent_of c hm hu
      · exact ⟨fun s h => (by cases h), SameIn.refl c⟩
    have hQ : SameIn c (tQuiet (tOutB c).2) := hB.2.trans ⟨rfl, rfl, rfl, rfl, rfl, id⟩
    obtain ⟨c1, hc1⟩ : ∃ c1, tQuiet (tOutB c).2 = c1 := ⟨_, rfl⟩
    rw [hc1] at hQ ⊢
    have hC : (∀ s ∈ (tOutC c1).1, OfConn c1 s) ∧ SameIn c1 (tOutC c1).2 := by
      unfold tOutC
      split
      · exact freshN_of _ c1 (hQ.n hn)
      · exact ⟨fun s h => (by cases h), SameIn.refl c1⟩
    obtain ⟨c2, hc2⟩ : ∃ c2, (tOutC c1).2 = c2 := ⟨_, rfl⟩
    have hQ2 : SameIn c c2 := by rw [← hc2]; exact hQ.trans hC.2
    have hD : (∀ s ∈ (tOutD c2).1, OfConn c2 s) ∧ SameIn c2 (tOutD c2).2 := by
      unfold tOutD
      split
      · refine ⟨fun s h => ?_, ⟨rfl, rfl, rfl, rfl, rfl, fun _ => Nat.mod_lt _ (by decide)⟩⟩
        rw [List.mem_singleton] at h
        subst h
        exact ofConn_seg c2 _ _ _ (.inr (.inl rfl)) (.inr (by simp)) (hQ2.n hn)
      · exact ⟨fun s h => (by cases h), SameIn.refl c2⟩
    have hQ3 : SameIn c (tOutD c2).2 := hQ2.trans hD.2
    unfold tOut2
    simp only [hc2]
    refine ⟨fun s h => ?_, hQ3.trans ⟨rfl, rfl, rfl, rfl, rfl, id⟩⟩
    simp only [List.mem_append] at h
    rcases h with (((h | h) | h) | h) | h
    · exact hA s h
    · exact hB.1 s h
    · exact (hC.1 s h).same hQ
    · exact (hD.1 s h).same hQ2
    · unfold tOutE at h
      split at h
      · rw [List.mem_singleton] at h
        subst h
        exact (ofConn_seg (tOutD c2).2 _ _ _ (.inl rfl) (.inr (by simp)) (hQ3.n hn)).same hQ3
      · cases h
/-- how far the next number goes -/
theorem flowN_r (k : Nat) : ∀ i : TIn, i.r < 4294967296 → ∃ d, d ≤ k ∧ (tFlowN k i).r = (i.r + d) % 4294967296 := by
  induction k with
  | zero => intro i h; exact ⟨0, Nat.le_refl _, by show i.r = _; omega⟩
  | succ k ih =>
    intro i h
    unfold tFlowN
    split
    · exact ⟨0, by omega, by omega⟩
    split
    · exact ⟨1, by omega, rfl⟩
    split
    · exact ⟨0, by omega, by omega⟩
    · obtain ⟨d, hd, he⟩ := ih { i with early := fun x => if x = i.r then none else i.early x, ready := i.ready ++ [_], r := (i.r + 1) % 4294967296 } (Nat.mod_lt _ (by decide))
      refine ⟨d + 1, by omega, ?_⟩
      rw [he]
      simp only
      omega
theorem note_r (i : TIn) (s : TSeg) : (tNote i s).r = i.r ∧ (tNote i s).q = i.q := by
  unfold tNote TIn.q
  split <;> exact ⟨rfl, rfl⟩
theorem takeB_r (c : TConn) (s : TSeg) (h : c.inn.r < 4294967296) : ∃ d, d ≤ 16385 ∧ (tTakeB c s).inn.r = (c.inn.r + d) % 4294967296 := by
  obtain ⟨h1, h2⟩ := note_r c.inn s
  obtain ⟨d, hd, he⟩ := flowN_r ((tNote c.inn s).q + 1) (tNote c.inn s) (by rw [h1]; exact h)
  refine ⟨d, ?_, ?_⟩
  · unfold TIn.q at *
    omega
  · show (tFlow (tNote c.inn s)).r = _
    unfold tFlow
    rw [he, h1]
theorem takeA_r (c : TConn) (s : TSeg) (h : c.inn.r < 4294967296) : ∃ d, d ≤ 16385 ∧ (tTakeA c s).inn.r = (c.inn.r + d) % 4294967296 := by
  unfold tTakeA
  split
  · split
    · exact ⟨0, by decide, by show c.inn.r = _; omega⟩
    · exact takeB_r _ s h
  · exact takeB_r _ s h
theorem take_r (c : TConn) (s : TSeg) (h : c.inn.r < 4294967296) : ∃ d, d ≤ 16385 ∧ (tTake c s).inn.r = (c.inn.r + d) % 4294967296 := by
  have h0 : ∃ d, d ≤ 16385 ∧ c.inn.r = (c.inn.r + d) % 4294967296 := ⟨0, by decide, by omega⟩
  unfold tTake
  split
  · exact h0
  split
  · split <;> exact h0
  split
  · split <;> exact h0
  split
  · exact h0
  split
  · exact h0
  split
  · exact h0
  · exact takeA_r { c with state := if c.state = 1 then 2 else c.state } s h
theorem takeB_id (c : TConn) (s : TSeg) : (tTakeB c s).src = c.src ∧ (tTakeB c s).dst = c.dst ∧ (tTakeB c s).out.m = c.out.m := by
  unfold tTakeB
  refine ⟨rfl, rfl, ?_⟩
  simp only
  split <;> rfl
theorem takeA_id (c : TConn) (s : TSeg) : (tTakeA c s).src = c.src ∧ (tTakeA c s).dst = c.dst ∧ (tTakeA c s).out.m = c.out.m := by
  unfold tTakeA
  split
  · split
    · exact ⟨rfl, rfl, rfl⟩
    · exact takeB_id _ s
  · exact takeB_id _ s
theorem take_id (c : TConn) (s : TSeg) : (tTake c s).src = c.src ∧ (tTake c s).dst = c.dst ∧ (tTake c s).out.m = c.out.m := by
  unfold tTake
  split
  · exact ⟨rfl, rfl, rfl⟩
  split
  · split <;> exact ⟨rfl, rfl, rfl⟩
  split
  · split <;> exact ⟨rfl, rfl, rfl⟩
  split
  · exact ⟨rfl, rfl, rfl⟩
  split
  · exact ⟨rfl, rfl, rfl⟩
  split
  · exact ⟨rfl, rfl, rfl⟩
  · exact takeA_id { c with state := if c.state = 1 then 2 else c.state } s
/-- such a segment may be written -/
theorem ofConn_writes {c : TConn} {s : TSeg} (h : OfConn c s) (h1 : c.src = 2049) (h2 : c.dst = 7) (h3 : c.out.m = 1000) (h4 : c.inn.ready.length ≤ 16384) (a b : Nat) :
    (segWrite a b s).2 = 0 ∧ s.data.length ≤ 1000 ∧ s.src = 2049 ∧ s.dst = 7 ∧ tBit s.flags 16 = true ∧ 0 ≤ s.flags ∧ s.flags ≤ 31 := by
  have hl : s.data.length ≤ 1000 := by have := h.len; rw [h3] at this; omega
  have hf : 0 ≤ s.flags ∧ s.flags ≤ 31 := by have := h.flags; omega
  refine ⟨?_, hl, h.src.trans h1, h.dst.trans h2, ?_, hf⟩
  · unfold segWrite
    have e1 := h.src.trans h1
    have e2 := h.dst.trans h2
    have e3 := h.window
    have e4 := h.mss
    rw [if_neg (by omega), if_neg (by omega), if_neg (by omega)]
  · have := h.flags
    rcases this with e | e | e | e | e <;> rw [e] <;> decide
end Go.Proofs.Ytahlcjkcdgahkaa
