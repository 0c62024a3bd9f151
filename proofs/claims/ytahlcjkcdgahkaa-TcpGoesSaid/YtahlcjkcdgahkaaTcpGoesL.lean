/- Bytes that are sent, lost, sent again: plain. No program is walked here. -/
import Derived.Test.YtahlcjkcdgahkaaTcpX
namespace Go.Proofs.Ytahlcjkcdgahkaa
open Go Go.RowKit

/-- a connection whose bytes are under way: G of them have come, sent are under way, fin: the end as well -/
def goC (i : TIn) (f1 w : Nat) (D : List UInt8) (G sent : Nat) (fin again : Bool) (t : Nat) (acks : Bool) : TConn :=
  { inn := i, out := { u := (f1 + G) % 4294967296, n := (f1 + G + sent + (if fin then 1 else 0)) % 4294967296, base := (f1 + G) % 4294967296, bytes := D.drop G, w := (w : Int), m := 1000, clock := 0, tries := (t : Int), ended := true, fin := fin },
    src := 2049, dst := 7, state := if fin then 4 else 3, begin_ := false, acks := acks, again := again, gave := false, off := false }
structure GSeg where
  off : Nat
  len : Nat
  fl : Int
def goS (i : TIn) (f1 : Nat) (D : List UInt8) (q : GSeg) : TSeg := ⟨2049, 7, (f1 + q.off) % 4294967296, i.r, q.fl, 16384 - (i.ready.length : Int), 0, (D.drop q.off).take q.len⟩
/-- segments one behind the other, from a on up to b -/
def Chain : List GSeg → Nat → Nat → Prop
  | [], a, b => a = b
  | q :: qs, a, b => q.off = a ∧ 0 < q.len ∧ q.len = min 1000 (b - a) ∧ a + q.len ≤ b ∧ tBit q.fl 1 = false ∧ Chain qs (a + q.len) b
section
variable {i : TIn} {f1 w : Nat} {D : List UInt8} {G sent : Nat} {fin again : Bool} {t : Nat} {acks : Bool}
theorem goC_sent (h : sent ≤ 100000) : (goC i f1 w D G sent fin again t acks).out.sent = sent := by
  unfold TOut.sent goC mSub
  cases fin <;> simp only [if_true, Bool.false_eq_true, if_false] <;> omega
theorem goC_left (h : sent ≤ 100000) : (goC i f1 w D G sent fin again t acks).out.left = ((D.length - G : Nat) : Int) - sent := by
  unfold TOut.left
  rw [goC_sent h]
  show ((D.drop G).length : Int) - _ = _
  rw [List.length_drop]
theorem goC_nu (h : sent ≤ 100000) : mSub (goC i f1 w D G sent fin again t acks).out.n (goC i f1 w D G sent fin again t acks).out.u = sent + (if fin then 1 else 0) := by
  unfold goC mSub
  cases fin <;> simp only [if_true, Bool.false_eq_true, if_false] <;> omega
theorem fresh_go (k : Nat) : ∀ sent, sent ≤ min (D.length - G) w → D.length - G - sent ≤ k → D.length ≤ 6000 → ∃ qs, tFreshN k (goC i f1 w D G sent false again t acks) = (qs.map (goS i f1 D), goC i f1 w D G (min (D.length - G) w) false again t acks) ∧ Chain qs (G + sent) (G + min (D.length - G) w) := by
  induction k with
  | zero =>
    intro sent h1 h2 hD
    have : sent = min (D.length - G) w := by omega
    subst this
    exact ⟨[], rfl, rfl⟩
  | succ k ih =>
    intro sent h1 h2 hD
    have hsl := goC_left (i := i) (f1 := f1) (w := w) (D := D) (G := G) (fin := false) (again := again) (t := t) (acks := acks) (show sent ≤ 100000 by omega)
    have hss := goC_sent (i := i) (f1 := f1) (w := w) (D := D) (G := G) (fin := false) (again := again) (t := t) (acks := acks) (show sent ≤ 100000 by omega)
    have hnu := goC_nu (i := i) (f1 := f1) (w := w) (D := D) (G := G) (fin := false) (again := again) (t := t) (acks := acks) (show sent ≤ 100000 by omega)
    simp only [Bool.false_eq_true, if_false, Nat.add_zero] at hnu
    have hroom : (goC i f1 w D G sent false again t acks).room = min 1000 (min (((D.length - G : Nat) : Int) - sent) ((w : Int) - sent)) := by
      unfold TConn.room
      rw [hsl, hnu]
      rfl
    by_cases hc : sent < min (D.length - G) w
    · obtain ⟨q, hq⟩ : ∃ q : Nat, min 1000 (min (D.length - G - sent) (w - sent)) = q := ⟨_, rfl⟩
      have hrq : (goC i f1 w D G sent false again t acks).room = (q : Int) := by rw [hroom]; omega
      have hq0 : 0 < q := by omega
      rw [tFreshN_yes (by rw [hsl]; omega) hrq hq0 k]
      have hmore : tSentMore (goC i f1 w D G sent false again t acks) q = goC i f1 w D G (sent + q) false again t acks := by
        unfold tSentMore goC
        simp only [Bool.false_eq_true, if_false, Nat.add_zero]
        congr 2
        omega
      rw [hmore]
      obtain ⟨qs, he, hch⟩ := ih (sent + q) (by omega) (by omega) hD
      rw [he]
      refine ⟨⟨G + sent, q, if (q : Int) = (goC i f1 w D G sent false again t acks).out.left then 24 else 16⟩ :: qs, ?_, rfl, hq0, ?_, ?_, ?_, ?_⟩
      · rw [List.map_cons, hss]
        congr 2
        unfold goS tSegment goC
        simp only [Bool.false_eq_true, if_false, Nat.add_zero, Int.toNat_natCast, List.drop_drop]
        congr 1
        rw [Nat.add_assoc]
      · show q = min 1000 (G + min (D.length - G) w - (G + sent))
        omega
      · show G + sent + q ≤ _
        omega
      · show tBit (if (q : Int) = (goC i f1 w D G sent false again t acks).out.left then 24 else 16) 1 = false
        split <;> decide
      · show Chain qs (G + sent + q) _
        rw [Nat.add_assoc]
        exact hch
    · have he : sent = min (D.length - G) w := by omega
      rw [tFreshN_no (by rw [hroom, hsl]; omega)]
      exact ⟨[], by rw [← he]; rfl, by show _ = _; omega⟩
end
/-- the other side hears a segment, or it is lost -/
def rv (Dl : Nat) (st : Nat × Bool × Bool) (q : GSeg) (lost : Bool) : Nat × Bool × Bool :=
  if lost = true then st
  else ((if q.off ≤ st.1 ∧ q.off + q.len > st.1 then q.off + q.len else st.1), st.2.1 || decide (q.len > 0) || tBit q.fl 1,
    st.2.2 || (tBit q.fl 1 && decide (q.off + q.len = (if q.off ≤ st.1 ∧ q.off + q.len > st.1 then q.off + q.len else st.1)) && decide ((if q.off ≤ st.1 ∧ q.off + q.len > st.1 then q.off + q.len else st.1) = Dl)))
def rvs (Dl : Nat) : List GSeg → List Bool → Nat × Bool × Bool → Nat × Bool × Bool
  | q :: qs, b :: bs, st => rvs Dl qs bs (rv Dl st q b)
  | _, _, st => st
theorem rvs_snoc (Dl : Nat) (q : GSeg) (b : Bool) : ∀ (qs : List GSeg) (bs : List Bool) (st : Nat × Bool × Bool), qs.length = bs.length → rvs Dl (qs ++ [q]) (bs ++ [b]) st = rv Dl (rvs Dl qs bs st) q b := by
  intro qs
  induction qs with
  | nil =>
    intro bs st h
    cases bs with
    | nil => rfl
    | cons _ _ => cases h
  | cons p qs ih =>
    intro bs st h
    cases bs with
    | nil => cases h
    | cons c bs => exact ih bs (rv Dl st p c) (by simpa using h)
/-- what lies behind is heard, no more -/
theorem rvs_behind (Dl G : Nat) : ∀ (qs : List GSeg) (bs : List Bool) (h e : Bool), (∀ q ∈ qs, G < q.off) → ∃ h', rvs Dl qs bs (G, h, e) = (G, h', e) ∧ (h = true → h' = true) := by
  intro qs
  induction qs with
  | nil => intro bs h e _; exact ⟨h, by unfold rvs; rfl, id⟩
  | cons q qs ih =>
    intro bs h e hq
    cases bs with
    | nil => exact ⟨h, rfl, id⟩
    | cons b bs =>
      have h0 := hq q (List.mem_cons_self ..)
      have hr : ∃ h1, rv Dl (G, h, e) q b = (G, h1, e) ∧ (h = true → h1 = true) := by
        unfold rv
        cases b with
        | true => exact ⟨h, rfl, id⟩
        | false =>
          refine ⟨h || decide (q.len > 0) || tBit q.fl 1, ?_, fun hh => by rw [hh]; simp⟩
          rw [if_neg (by simp)]
          have h1 : ¬ (q.off ≤ G ∧ q.off + q.len > G) := by omega
          simp only [if_neg h1]
          have h2 : decide (q.off + q.len = G) = false := by simp; omega
          rw [h2]
          simp
      obtain ⟨h1, he, hh⟩ := hr
      obtain ⟨h', he', hh'⟩ := ih bs h1 e (fun p hp => hq p (List.mem_cons_of_mem _ hp))
      exact ⟨h', by show rvs Dl qs bs (rv Dl (G, h, e) q b) = _; rw [he]; exact he', fun x => hh' (hh x)⟩
/-- nothing is heard: all was lost -/
theorem rv_heard (Dl : Nat) (st : Nat × Bool × Bool) (q : GSeg) (b : Bool) (h : st.2.1 = true) : (rv Dl st q b).2.1 = true := by
  unfold rv
  split
  · exact h
  · simp [h]
theorem rvs_heard (Dl : Nat) : ∀ (qs : List GSeg) (bs : List Bool) (st : Nat × Bool × Bool), st.2.1 = true → (rvs Dl qs bs st).2.1 = true := by
  intro qs
  induction qs with
  | nil => intro bs st h; exact h
  | cons q qs ih =>
    intro bs st h
    cases bs with
    | nil => exact h
    | cons b bs => exact ih bs _ (rv_heard Dl st q b h)
/-- how far it gets -/
theorem rvs_far (Dl B : Nat) : ∀ (qs : List GSeg) (bs : List Bool) (st : Nat × Bool × Bool), (∀ q ∈ qs, q.off + q.len ≤ B) → st.1 ≤ B → (st.2.2 = true → st.1 = Dl) → B ≤ Dl →
    st.1 ≤ (rvs Dl qs bs st).1 ∧ (rvs Dl qs bs st).1 ≤ B ∧ ((rvs Dl qs bs st).2.2 = true → (rvs Dl qs bs st).1 = Dl ∧ (st.2.2 = true ∨ ∃ q ∈ qs, tBit q.fl 1 = true)) := by
  intro qs
  induction qs with
  | nil => intro bs st _ h1 h2 _; exact ⟨Nat.le_refl _, h1, fun h => ⟨h2 h, .inl h⟩⟩
  | cons q qs ih =>
    intro bs st hq h1 h2 hB
    cases bs with
    | nil => exact ⟨Nat.le_refl _, h1, fun h => ⟨h2 h, .inl h⟩⟩
    | cons b bs =>
      have h0 := hq q (List.mem_cons_self ..)
      have hr : st.1 ≤ (rv Dl st q b).1 ∧ (rv Dl st q b).1 ≤ B ∧ ((rv Dl st q b).2.2 = true → (rv Dl st q b).1 = Dl ∧ (st.2.2 = true ∨ tBit q.fl 1 = true)) := by
        unfold rv
        split
        · exact ⟨Nat.le_refl _, h1, fun h => ⟨h2 h, .inl h⟩⟩
        · simp only
          refine ⟨by split <;> omega, by split <;> omega, fun h => ?_⟩
          simp only [Bool.or_eq_true, Bool.and_eq_true, decide_eq_true_eq] at h
          rcases h with h | ⟨⟨h3, _⟩, h4⟩
          · refine ⟨?_, .inl h⟩
            have h5 := h2 h
            split <;> omega
          · exact ⟨h4, .inr h3⟩
      obtain ⟨a, b', c⟩ := hr
      obtain ⟨a2, b2, c2⟩ := ih bs (rv Dl st q b) (fun p hp => hq p (List.mem_cons_of_mem _ hp)) b' (fun h => (c h).1) hB
      refine ⟨Nat.le_trans a a2, b2, fun h => ⟨(c2 h).1, ?_⟩⟩
      rcases (c2 h).2 with h6 | ⟨p, hp, h6⟩
      · rcases (c h6).2 with h7 | h7
        · exact .inl h7
        · exact .inr ⟨q, List.mem_cons_self .., h7⟩
      · exact .inr ⟨p, List.mem_cons_of_mem _ hp, h6⟩
/-- how many are lost -/
def cnt (bs : List Bool) : Nat := (bs.filter (· = true)).length
theorem cnt_cons (b : Bool) (bs : List Bool) : cnt (b :: bs) = (if b = true then 1 else 0) + cnt bs := by
  unfold cnt
  cases b <;> simp <;> omega
theorem cnt_snoc (bs : List Bool) (b : Bool) : cnt (bs ++ [b]) = cnt bs + (if b = true then 1 else 0) := by
  unfold cnt
  cases b <;> simp
/-- what holds before a turn -/
structure GoI (Dl w G sent : Nat) (fin again : Bool) (t : Nat) (acks : Bool) : Prop where
  g : G ≤ Dl
  s : sent ≤ min (Dl - G) w
  f : fin = true → sent = Dl - G
  nf : fin = false → sent < Dl - G ∨ Dl = 0
  ag : again = true → 1 ≤ t ∧ t ≤ 4 ∧ (fin = true ∨ sent = w)
  na : again = false → t = 0
  ac : acks = true → again = false ∧ fin = false ∧ sent = 0
/-- what goes out in a turn -/
inductive Shape (Dl w G sent : Nat) (fin again : Bool) : List GSeg → Nat → Bool → Prop
  | front (qs : List GSeg) (h1 : fin = false) (h2 : again = false) (h3 : sent = 0) (hg : G < Dl) (hc : Chain qs G (G + min (Dl - G) w)) (fin' : Bool) (hf : fin' = decide (min (Dl - G) w = Dl - G)) : Shape Dl w G sent fin again (qs ++ if fin' = true then [⟨Dl, 0, 17⟩] else []) (min (Dl - G) w) fin'
  | last (hg : G = Dl) (hs : sent = 0) : Shape Dl w G sent fin again [⟨Dl, 0, 17⟩] 0 true
  | behind (qs : List GSeg) (h1 : fin = false) (h2 : again = false) (h3 : 0 < sent) (hg : G < Dl) (hc : Chain qs (G + sent) (G + min (Dl - G) w)) (fin' : Bool) (hf : fin' = decide (min (Dl - G) w = Dl - G)) : Shape Dl w G sent fin again (qs ++ if fin' = true then [⟨Dl, 0, 17⟩] else []) (min (Dl - G) w) fin'
  | none (h1 : fin = true) (h2 : again = false) : Shape Dl w G sent fin again [] sent true
  | resent (h2 : again = true) (h3 : 0 < sent) (hg : G < Dl) : Shape Dl w G sent fin again [⟨G, min sent 1000, 16⟩] sent fin
theorem goC_quiet {i : TIn} {f1 w : Nat} {D : List UInt8} {G sent : Nat} {fin again : Bool} {t : Nat} {acks : Bool} : tQuiet (goC i f1 w D G sent fin again t acks) = goC i f1 w D G sent fin false t acks := rfl
theorem goes_out {i : TIn} {f1 w : Nat} {D : List UInt8} {G sent : Nat} {fin again : Bool} {t : Nat} {acks : Bool} (h : GoI D.length w G sent fin again t acks) (hD : D.length ≤ 6000) (hw : 1 ≤ w) :
    ∃ qs sent' fin', tOut (goC i f1 w D G sent fin again t acks) = (qs.map (goS i f1 D), goC i f1 w D G sent' fin' false t false) ∧ Shape D.length w G sent fin again qs sent' fin' := by
  have hg := h.g
  have hs := h.s
  have hA : tOutA (goC i f1 w D G sent fin again t acks) = [] := by
    unfold tOutA
    rw [if_neg (fun q => by have := q.1; unfold goC at this; cases fin <;> simp at this)]
  unfold tOut
  rw [if_neg (by simp [goC]), if_neg (by simp [goC]), hA]
  have hsent : ∀ b, (goC i f1 w D G sent fin again t b).out.sent = sent := fun b => goC_sent (by omega)
  have hleft : ∀ (s : Nat) (fi ag : Bool) (b : Bool), s ≤ 100000 → (goC i f1 w D G s fi ag t b).out.left = ((D.length - G : Nat) : Int) - s := fun s fi ag b hs => goC_left hs
  -- the end
  have hD1 : ∀ (s : Nat), s = D.length - G → tOutD (goC i f1 w D G s false false t acks) = ([goS i f1 D ⟨D.length, 0, 17⟩], goC i f1 w D G s true false t acks) := by
    intro s hs'
    unfold tOutD
    rw [if_pos ⟨rfl, rfl, by rw [hleft s _ _ _ (by omega)]; omega⟩]
    congr 1
    · congr 1
      unfold tSegment goS goC
      simp only [Bool.false_eq_true, if_false, Nat.add_zero, List.take_zero]
      congr 1
      omega
    · unfold goC
      simp only [Bool.false_eq_true, if_false, Nat.add_zero, if_true]
      congr 2
      omega
  have hD0 : ∀ (s : Nat), s < D.length - G → tOutD (goC i f1 w D G s false false t acks) = ([], goC i f1 w D G s false false t acks) := by
    intro s hs'
    unfold tOutD
    rw [if_neg (fun q => by have := q.2.2; rw [hleft s _ _ _ (by omega)] at this; omega)]
  have hD4 : ∀ (s : Nat), tOutD (goC i f1 w D G s true false t acks) = ([], goC i f1 w D G s true false t acks) := by
    intro s
    unfold tOutD
    rw [if_neg (fun q => by have := q.1; simp [goC] at this)]
  have hC3 : ∃ qs, tOutC (goC i f1 w D G sent false false t acks) = (qs.map (goS i f1 D), goC i f1 w D G (min (D.length - G) w) false false t acks) ∧ Chain qs (G + sent) (G + min (D.length - G) w) := by
    unfold tOutC
    rw [if_pos (.inr rfl)]
    unfold tFresh
    exact fresh_go _ sent hs (by rw [hleft _ _ _ _ (by omega)]; omega) hD
  have hC4 : ∀ s, tOutC (goC i f1 w D G s true false t acks) = ([], goC i f1 w D G s true false t acks) := by
    intro s
    unfold tOutC
    rw [if_neg (fun q => by rcases q with q | q <;> simp [goC] at q)]
  have hE : ∀ (s : Nat) (fi : Bool) (l : List TSeg), (acks = true → l ≠ []) → tOutE (goC i f1 w D G s fi false t acks) l = [] := by
    intro s fi l hl
    unfold tOutE
    rw [if_neg (fun q => hl q.1 q.2)]
  have hacks : ∀ (s : Nat) (fi : Bool), ({ goC i f1 w D G s fi false t acks with acks := false } : TConn) = goC i f1 w D G s fi false t false := fun s fi => rfl
  cases hag : again with
  | false =>
    have hB : tOutB (goC i f1 w D G sent fin false t acks) = ([], goC i f1 w D G sent fin false t acks) := by unfold tOutB; rw [if_neg (by simp [goC])]
    rw [hB]
    simp only [List.nil_append]
    rw [goC_quiet]
    unfold tOut2
    cases hfi : fin with
    | true =>
      simp only [hC4, hD4, List.append_nil, List.nil_append]
      rw [hE sent true [] (fun q => by have := (h.ac q).2.1; rw [hfi] at this; cases this), hacks]
      exact ⟨[], sent, true, rfl, .none rfl rfl⟩
    | false =>
      obtain ⟨qs, hq, hch⟩ := hC3
      simp only [hq]
      by_cases hend : min (D.length - G) w = D.length - G
      · simp only [hD1 _ hend, List.nil_append]
        rw [hE _ _ _ (fun _ => by simp), hacks, List.append_nil, show qs.map (goS i f1 D) ++ [goS i f1 D ⟨D.length, 0, 17⟩] = (qs ++ [(⟨D.length, 0, 17⟩ : GSeg)]).map (goS i f1 D) by simp]
        by_cases hG : G < D.length
        · by_cases hs0 : sent = 0
          · subst hs0
            exact ⟨_, _, true, rfl, by have := Shape.front (Dl := D.length) (w := w) (G := G) (sent := 0) (fin := false) (again := false) qs rfl rfl rfl hG hch true (by simp [hend]); simpa using this⟩
          · exact ⟨_, _, true, rfl, by have := Shape.behind (Dl := D.length) (w := w) (G := G) (sent := sent) (fin := false) (again := false) qs rfl rfl (by omega) hG hch true (by simp [hend]); simpa using this⟩
        · have hz : G = D.length := by omega
          have hm : min (D.length - G) w = 0 := by omega
          have hs0 : sent = 0 := by omega
          have hqs : qs = [] := by
            cases qs with
            | nil => rfl
            | cons q qs =>
              obtain ⟨_, h1, _, h2, _⟩ := hch
              omega
          subst hqs
          rw [hm]
          exact ⟨_, _, true, rfl, .last hz hs0⟩
      · have hlt : min (D.length - G) w < D.length - G := by omega
        have hG : G < D.length := by omega
        simp only [hD0 _ hlt, List.nil_append, List.append_nil]
        have hne : acks = true → qs.map (goS i f1 D) ≠ [] := fun q e => by
          have h0 := (h.ac q).2.2
          have hq0 : qs = [] := List.map_eq_nil_iff.1 e
          subst hq0
          have : G + sent = G + min (D.length - G) w := hch
          omega
        rw [hE _ _ _ hne, hacks, List.append_nil]
        by_cases hs0 : sent = 0
        · subst hs0
          exact ⟨_, _, false, rfl, by have := Shape.front (Dl := D.length) (w := w) (G := G) (sent := 0) (fin := false) (again := false) qs rfl rfl rfl hG hch false (by simp [hend]); simpa using this⟩
        · exact ⟨_, _, false, rfl, by have := Shape.behind (Dl := D.length) (w := w) (G := G) (sent := sent) (fin := false) (again := false) qs rfl rfl (by omega) hG hch false (by simp [hend]); simpa using this⟩
  | true =>
    have hac : acks = false := by
      cases e : acks with
      | false => rfl
      | true => have := (h.ac e).1; rw [hag] at this; cases this
    subst hac
    obtain ⟨ht1, ht2, hag3⟩ := h.ag hag
    by_cases hs0 : 0 < sent
    · have hR : tResent (goC i f1 w D G sent fin true t false) = ([goS i f1 D ⟨G, min sent 1000, 16⟩], goC i f1 w D G sent fin true t false) := by
        have hss : (goC i f1 w D G sent fin true t false).out.sent = sent := goC_sent (by omega)
        unfold tResent
        rw [if_pos (by rw [hss]; omega), hss]
        congr 2
        unfold tSegment goS goC
        simp only
        congr 1
        congr 1
        omega
      have hB : tOutB (goC i f1 w D G sent fin true t false) = ([goS i f1 D ⟨G, min sent 1000, 16⟩], goC i f1 w D G sent fin true t false) := by unfold tOutB; rw [if_pos (show (goC i f1 w D G sent fin true t false).again = true from rfl), hR]
      rw [hB]
      simp only [List.nil_append]
      rw [goC_quiet]
      have hG : G < D.length := by omega
      unfold tOut2
      cases hfi : fin with
      | true =>
        simp only [hC4, hD4, List.append_nil]
        rw [hE _ _ _ (fun q => by cases q), hacks, List.append_nil]
        exact ⟨[⟨G, min sent 1000, 16⟩], sent, true, rfl, Shape.resent rfl hs0 hG⟩
      | false =>
        have hsw : sent = w := by rcases hag3 with h3 | h3; rw [hfi] at h3; cases h3; exact h3
        have hnf := h.nf hfi
        obtain ⟨qs, hq, hch⟩ := hC3
        have hmw : min (D.length - G) w = sent := by omega
        rw [hmw] at hq hch
        have hqs : qs = [] := by
          cases qs with
          | nil => rfl
          | cons q qs =>
            obtain ⟨_, h1, _, h2, _⟩ := hch
            omega
        subst hqs
        simp only [hq, hD0 sent (by omega), List.map_nil, List.append_nil]
        rw [hE _ _ _ (fun q => by cases q), hacks, List.append_nil]
        exact ⟨[⟨G, min sent 1000, 16⟩], sent, false, rfl, Shape.resent rfl hs0 hG⟩
    · have hz : sent = 0 := by omega
      subst hz
      have hfi : fin = true := by
        rcases hag3 with h3 | h3
        · exact h3
        · omega
      have hGz := h.f hfi
      subst hfi
      have hss : (goC i f1 w D G 0 true true t false).out.sent = 0 := goC_sent (by omega)
      have hR : tResent (goC i f1 w D G 0 true true t false) = ([goS i f1 D ⟨D.length, 0, 17⟩], goC i f1 w D G 0 true true t false) := by
        unfold tResent
        rw [if_neg (by rw [hss]; decide), if_pos ⟨rfl, by unfold goC; simp only [if_true]; omega⟩]
        refine Prod.ext ?_ rfl
        refine congrArg (fun z => [z]) ?_
        unfold tSegment goS goC mSub
        simp only [if_true, List.take_zero, TSeg.mk.injEq, true_and, and_true]
        omega
      have hB : tOutB (goC i f1 w D G 0 true true t false) = ([goS i f1 D ⟨D.length, 0, 17⟩], goC i f1 w D G 0 true true t false) := by unfold tOutB; rw [if_pos (show (goC i f1 w D G 0 true true t false).again = true from rfl), hR]
      rw [hB]
      simp only [List.nil_append]
      rw [goC_quiet]
      unfold tOut2
      simp only [hC4, hD4, List.append_nil]
      rw [hE _ _ _ (fun q => by cases q), hacks, List.append_nil]
      exact ⟨_, _, true, rfl, .last (by omega) rfl⟩
end Go.Proofs.Ytahlcjkcdgahkaa
