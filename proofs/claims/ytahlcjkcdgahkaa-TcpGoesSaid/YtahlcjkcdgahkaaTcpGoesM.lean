/- A turn: what is heard, and that the turns come to an end. Plain. -/
import Derived.Test.YtahlcjkcdgahkaaTcpGoesL
namespace Go.Proofs.Ytahlcjkcdgahkaa
open Go Go.RowKit

/-- turns that may still come, where G have come -/
def kap (Dl w G sent : Nat) (fin again : Bool) : Nat :=
  if G < Dl then (if again = true then 11 else if sent = 0 ∧ fin = false then 10 else if fin = false ∧ sent < w then 13 else 12) else (if again = true then 3 else if fin = true then 4 else 5)
def mu (Dl w G sent : Nat) (fin again : Bool) (L : Nat) : Nat := (Dl - G) + 3 * (59 - L) + kap Dl w G sent fin again
theorem kap_le {Dl w G sent : Nat} {fin again : Bool} : kap Dl w G sent fin again ≤ 13 := by
  unfold kap
  split
  · split
    · omega
    split
    · omega
    split <;> omega
  · split
    · omega
    split <;> omega
theorem chain_off : ∀ (qs : List GSeg) (a b : Nat), Chain qs a b → ∀ q ∈ qs, a ≤ q.off ∧ q.off + q.len ≤ b ∧ 0 < q.len ∧ q.len ≤ 1000 ∧ tBit q.fl 1 = false := by
  intro qs
  induction qs with
  | nil => intro a b _ q hq; cases hq
  | cons p qs ih =>
    intro a b h q hq
    obtain ⟨h1, h2, h3, h4, h5, h6⟩ := h
    rcases List.mem_cons.1 hq with rfl | hq
    · exact ⟨by omega, by omega, h2, by omega, h5⟩
    · obtain ⟨a1, a2, a3, a4, a5⟩ := ih _ _ h6 q hq
      exact ⟨by omega, a2, a3, a4, a5⟩
/-- what each segment is -/
structure QOk (Dl w G : Nat) (q : GSeg) : Prop where
  len : q.len ≤ 1000
  off : q.off + q.len ≤ Dl
  win : q.off + q.len ≤ G + w
  some : 0 < q.len ∨ tBit q.fl 1 = true
theorem shape_ok {Dl w G sent sent' : Nat} {fin again fin' : Bool} {t : Nat} {acks : Bool} {qs : List GSeg} (h : GoI Dl w G sent fin again t acks) (hs : Shape Dl w G sent fin again qs sent' fin') : ∀ q ∈ qs, QOk Dl w G q := by
  have hg := h.g
  have hs1 := h.s
  cases hs with
  | front qs h1 h2 h3 hG hc fin' hf =>
    intro q hq
    rcases List.mem_append.1 hq with hq | hq
    · obtain ⟨a1, a2, a3, a4, a5⟩ := chain_off _ _ _ hc q hq
      exact ⟨a4, by omega, by omega, .inl a3⟩
    · split at hq
      · rename_i h6
        rw [hf, decide_eq_true_eq] at h6
        rw [List.mem_singleton] at hq
        subst hq
        exact ⟨by simp, by simp, by simp only; omega, .inr (show tBit 17 1 = true by decide)⟩
      · cases hq
  | last hG h0 =>
    intro q hq
    rw [List.mem_singleton] at hq
    subst hq
    exact ⟨by simp, by simp, by simp only; omega, .inr (show tBit 17 1 = true by decide)⟩
  | behind qs h1 h2 h3 hG hc fin' hf =>
    intro q hq
    rcases List.mem_append.1 hq with hq | hq
    · obtain ⟨a1, a2, a3, a4, a5⟩ := chain_off _ _ _ hc q hq
      exact ⟨a4, by omega, by omega, .inl a3⟩
    · split at hq
      · rename_i h6
        rw [hf, decide_eq_true_eq] at h6
        rw [List.mem_singleton] at hq
        subst hq
        exact ⟨by simp, by simp, by simp only; omega, .inr (show tBit 17 1 = true by decide)⟩
      · cases hq
  | none => intro q hq; cases hq
  | resent h2 h3 hG =>
    intro q hq
    rw [List.mem_singleton] at hq
    subst hq
    exact ⟨by simp only; omega, by simp only; omega, by simp only; omega, .inl (by simp only; omega)⟩
/-- nothing heard: all was lost -/
theorem rvs_mute (Dl : Nat) : ∀ (qs : List GSeg) (bs : List Bool) (st : Nat × Bool × Bool), bs.length = qs.length → (∀ q ∈ qs, 0 < q.len ∨ tBit q.fl 1 = true) → (rvs Dl qs bs st).2.1 = false → rvs Dl qs bs st = st ∧ cnt bs = qs.length := by
  intro qs
  induction qs with
  | nil =>
    intro bs st h _ _
    cases bs with
    | nil => exact ⟨rfl, rfl⟩
    | cons _ _ => cases h
  | cons q qs ih =>
    intro bs st h hq hm
    cases bs with
    | nil => cases h
    | cons b bs =>
      cases b with
      | false =>
        exfalso
        have h1 : (rv Dl st q false).2.1 = true := by
          unfold rv
          rw [if_neg (by simp)]
          rcases hq q (List.mem_cons_self ..) with h0 | h0
          · simp [h0]
          · simp [h0]
        have h2 := rvs_heard Dl qs bs _ h1
        have h3 : (rvs Dl qs bs (rv Dl st q false)).2.1 = false := hm
        rw [h3] at h2
        cases h2
      | true =>
        have he : rv Dl st q true = st := by unfold rv; rw [if_pos rfl]
        obtain ⟨a, b'⟩ := ih bs st (by simpa using h) (fun p hp => hq p (List.mem_cons_of_mem _ hp)) (by have h3 : (rvs Dl qs bs (rv Dl st q true)).2.1 = false := hm; rw [he] at h3; exact h3)
        refine ⟨by show rvs Dl qs bs (rv Dl st q true) = st; rw [he]; exact a, ?_⟩
        rw [cnt_cons, if_pos rfl, b', List.length_cons]
        omega
/-- after a turn in which something was heard -/
def NextH (Dl w G sent' : Nat) (fin' : Bool) (L : Nat) (m : Nat) (r : Nat × Bool × Bool) (c : Nat) : Prop :=
  G ≤ r.1 ∧ r.1 ≤ G + sent' ∧ r.1 ≤ Dl ∧ (r.2.2 = true → r.1 = Dl ∧ fin' = true ∧ sent' = Dl - G) ∧ (r.2.2 = false → GoI Dl w r.1 (sent' - (r.1 - G)) fin' false 0 false ∧ mu Dl w r.1 (sent' - (r.1 - G)) fin' false (L + c) < m)
/-- after a turn in which nothing was -/
def NextN (Dl w G sent' : Nat) (fin' : Bool) (t L : Nat) (m : Nat) (r : Nat × Bool × Bool) (c : Nat) : Prop :=
  r = (G, false, false) ∧ (0 < sent' ∨ fin' = true) ∧ t ≤ 3 ∧ GoI Dl w G sent' fin' true (t + 1) false ∧ mu Dl w G sent' fin' true (L + c) < m
theorem turn_end {Dl w G : Nat} {sent' : Nat} {fin' : Bool} (hs : sent' ≤ min (Dl - G) w) (hg : G ≤ Dl) (hf : fin' = true → sent' = Dl - G) (hnf : fin' = false → sent' < Dl - G) (g2 : Nat) (h1 : G ≤ g2) (h2 : g2 ≤ G + sent') : GoI Dl w g2 (sent' - (g2 - G)) fin' false 0 false :=
  ⟨by omega, by omega, fun h => by have := hf h; omega, fun h => .inl (by have := hnf h; omega), (fun h => by cases h), fun _ => rfl, fun h => by cases h⟩
theorem goes_turn {Dl w G sent sent' : Nat} {fin again fin' : Bool} {t L : Nat} {acks : Bool} {qs : List GSeg} (h : GoI Dl w G sent fin again t acks) (hw : 1 ≤ w) (hs : Shape Dl w G sent fin again qs sent' fin') (bs : List Bool) (hb : bs.length = qs.length) (hL : L + cnt bs ≤ 59) (ht : t = 4 → cnt bs = 0) :
    ((rvs Dl qs bs (G, false, false)).2.1 = true → NextH Dl w G sent' fin' L (mu Dl w G sent fin again L) (rvs Dl qs bs (G, false, false)) (cnt bs)) ∧
    ((rvs Dl qs bs (G, false, false)).2.1 = false → NextN Dl w G sent' fin' t L (mu Dl w G sent fin again L) (rvs Dl qs bs (G, false, false)) (cnt bs)) := by
  have hok := shape_ok h hs
  have hg := h.g
  have hs1 := h.s
  have hmute := rvs_mute Dl qs bs (G, false, false) hb (fun q hq => (hok q hq).some)
  cases hs with
  | front qs h1 h2 h3 hG hc fin' hf =>
    subst h1; subst h2; subst h3
    have ht0 := h.na rfl
    subst ht0
    obtain ⟨b, hbb⟩ : ∃ b, min (Dl - G) w = b := ⟨_, rfl⟩
    rw [hbb] at hc hf ⊢
    have hb0 : 0 < b ∧ b ≤ Dl - G ∧ b ≤ w := by omega
    have hfin1 : fin' = true → b = Dl - G := fun e => by rw [hf] at e; simpa using e
    have hfin0 : fin' = false → b < Dl - G := fun e => by rw [hf] at e; simp at e; omega
    have hmu : mu Dl w G 0 false false L = (Dl - G) + 3 * (59 - L) + 10 := by unfold mu kap; rw [if_pos hG, if_neg (by simp), if_pos ⟨rfl, rfl⟩]
    rw [hmu]
    obtain ⟨q0, rest, hqs⟩ : ∃ q0 rest, qs = q0 :: rest := by
      cases qs with
      | nil => have : G = G + b := hc; omega
      | cons q0 rest => exact ⟨q0, rest, rfl⟩
    subst hqs
    obtain ⟨c1, c2, c3, c4, c5, c6⟩ := hc
    have c3' : q0.len = min 1000 b := by rw [c3]; congr 1; omega
    obtain ⟨tail, htl⟩ : ∃ tail, rest ++ (if fin' = true then [(⟨Dl, 0, 17⟩ : GSeg)] else []) = tail := ⟨_, rfl⟩
    have hall : (q0 :: rest) ++ (if fin' = true then [(⟨Dl, 0, 17⟩ : GSeg)] else []) = q0 :: tail := by rw [List.cons_append, htl]
    rw [hall] at hb hmute hok ⊢
    cases bs with
    | nil => cases hb
    | cons b0 bs =>
      have htail : ∀ q ∈ tail, G + q0.len ≤ q.off ∧ q.off + q.len ≤ G + b := by
        intro q hq
        rw [← htl] at hq
        rcases List.mem_append.1 hq with hq | hq
        · have := chain_off _ _ _ c6 q hq
          exact ⟨this.1, this.2.1⟩
        · split at hq
          · rename_i h6
            have := hfin1 h6
            rw [List.mem_singleton] at hq
            subst hq
            exact ⟨by simp only; omega, by simp only; omega⟩
          · cases hq
      have hfinseg : ∀ q ∈ tail, tBit q.fl 1 = true → fin' = true := by
        intro q hq hbit
        rw [← htl] at hq
        rcases List.mem_append.1 hq with hq | hq
        · have := (chain_off _ _ _ c6 q hq).2.2.2.2
          rw [this] at hbit; cases hbit
        · split at hq
          · rename_i h6; exact h6
          · cases hq
      cases b0 with
      | true =>
        have hrv : rvs Dl (q0 :: tail) (true :: bs) (G, false, false) = rvs Dl tail bs (G, false, false) := by show rvs Dl tail bs (rv Dl (G, false, false) q0 true) = _; unfold rv; rw [if_pos rfl]
        obtain ⟨h', he, _⟩ := rvs_behind Dl G tail bs false false (fun q hq => by have := (htail q hq).1; omega)
        rw [hrv, he] at hmute ⊢
        have hcn := cnt_cons true bs
        rw [if_pos rfl] at hcn
        refine ⟨fun e => ?_, fun e => ?_⟩
        · refine ⟨Nat.le_refl _, by simp, hg, (fun e => by cases e), fun _ => ?_⟩
          simp only [Nat.sub_self, Nat.sub_zero]
          refine ⟨by have := turn_end (w := w) (sent' := b) (by omega) hg hfin1 hfin0 G (Nat.le_refl _) (by omega); simpa using this, ?_⟩
          have hk : kap Dl w G b fin' false ≤ 12 := by
            unfold kap
            rw [if_pos hG, if_neg (by simp), if_neg (by omega)]
            by_cases hfb : fin' = false ∧ b < w
            · have := hfin0 hfb.1; omega
            · rw [if_neg hfb]; omega
          unfold mu
          omega
        · refine ⟨by simp only at e; rw [e], .inl hb0.1, by omega, ⟨hg, by omega, fun e => hfin1 e, fun e => .inl (hfin0 e), fun _ => ⟨by omega, by omega, ?_⟩, (fun e => by cases e), fun e => by cases e⟩, ?_⟩
          · cases hff : fin' with
            | true => exact .inl rfl
            | false => have := hfin0 hff; exact .inr (by omega)
          · have hk : kap Dl w G b fin' true = 11 := by unfold kap; rw [if_pos hG, if_pos rfl]
            unfold mu
            omega
      | false =>
        have hrv : rvs Dl (q0 :: tail) (false :: bs) (G, false, false) = rvs Dl tail bs (G + q0.len, true, false) := by
          show rvs Dl tail bs (rv Dl (G, false, false) q0 false) = _
          unfold rv
          rw [if_neg (by simp)]
          simp only [c1, c5, Bool.false_and, Bool.or_false]
          rw [if_pos (by omega)]
          simp [c2]
        rw [hrv] at hmute ⊢
        have hheard := rvs_heard Dl tail bs (G + q0.len, true, false) rfl
        obtain ⟨d1, d2, d3⟩ := rvs_far Dl (G + b) tail bs (G + q0.len, true, false) (fun q hq => (htail q hq).2) (by simp only; omega) (fun e => by cases e) (by omega)
        have hcn := cnt_cons false bs
        rw [if_neg (by simp)] at hcn
        generalize rvs Dl tail bs (G + q0.len, true, false) = r at *
        obtain ⟨g2, hd2, en2⟩ := r
        simp only at d1 d2 d3 hheard ⊢
        refine ⟨fun _ => ⟨by omega, by omega, by omega, fun e => ?_, fun e => ?_⟩, fun e => by rw [hheard] at e; cases e⟩
        · obtain ⟨e1, e2⟩ := d3 e
          rcases e2 with e2 | ⟨q, hq, e2⟩
          · cases e2
          · have := hfinseg q hq e2
            exact ⟨e1, this, hfin1 this⟩
        · refine ⟨turn_end (by omega) hg hfin1 hfin0 g2 (by omega) (by omega), ?_⟩
          show mu Dl w g2 (b - (g2 - G)) fin' false (L + cnt (false :: bs)) < _
          unfold mu
          rw [hcn]
          by_cases hend : g2 < Dl
          · by_cases hwk : b ≤ 1000
            · have hq : q0.len = b := by omega
              have hz : b - (g2 - G) = 0 := by omega
              have hf0 : fin' = false := by
                cases hff : fin' with
                | false => rfl
                | true => have := hfin1 hff; omega
              have hk : kap Dl w g2 (b - (g2 - G)) fin' false = 10 := by unfold kap; rw [if_pos hend, if_neg (by simp), if_pos ⟨hz, hf0⟩]
              omega
            · have hk := kap_le (Dl := Dl) (w := w) (G := g2) (sent := b - (g2 - G)) (fin := fin') (again := false)
              omega
          · have hk : kap Dl w g2 (b - (g2 - G)) fin' false ≤ 5 := by unfold kap; rw [if_neg hend, if_neg (by simp)]; split <;> omega
            omega
  | last hG h0 =>
    subst hG; subst h0
    have hmu : 3 * (59 - L) + 3 ≤ mu G w G 0 fin again L := by unfold mu kap; rw [if_neg (by omega)]; split; omega; split <;> omega
    have hmu0 : mu G w G 0 fin again L = 3 * (59 - L) + kap G w G 0 fin again := by unfold mu; omega
    cases bs with
    | nil => cases hb
    | cons b0 bs =>
      obtain rfl : bs = [] := by cases bs with | nil => rfl | cons _ _ => simp at hb
      cases b0 with
      | true =>
        have hrv : rvs G [⟨G, 0, 17⟩] [true] (G, false, false) = (G, false, false) := by show rv G (G, false, false) ⟨G, 0, 17⟩ true = _; unfold rv; rw [if_pos rfl]
        have hcn : cnt [true] = 1 := rfl
        rw [hrv]
        have ht4 : t ≠ 4 := fun e => by have := ht e; rw [hcn] at this; cases this
        refine ⟨(fun e => by cases e), fun _ => ⟨rfl, .inr rfl, ?_, ⟨Nat.le_refl _, by omega, fun _ => by omega, (fun e => by cases e), fun _ => ⟨by omega, ?_, .inl rfl⟩, (fun e => by cases e), (fun e => by cases e)⟩, ?_⟩⟩
        · cases ha : again with
          | true => have := h.ag ha; omega
          | false => have := h.na ha; omega
        · cases ha : again with
          | true => have := h.ag ha; omega
          | false => have := h.na ha; omega
        · have hk : kap G w G 0 true true = 3 := by unfold kap; rw [if_neg (by omega), if_pos rfl]
          have hmm : mu G w G 0 true true (L + cnt [true]) = 3 * (59 - (L + 1)) + 3 := by unfold mu; rw [hk, hcn]; omega
          rw [hcn] at hL
          rw [hmm]
          omega
      | false =>
        have hrv : rvs G [⟨G, 0, 17⟩] [false] (G, false, false) = (G, true, true) := by
          show rv G (G, false, false) ⟨G, 0, 17⟩ false = _
          unfold rv
          rw [if_neg (by simp)]
          have : tBit 17 1 = true := by decide
          simp [this]
        rw [hrv]
        exact ⟨fun _ => ⟨Nat.le_refl _, by simp, Nat.le_refl _, fun _ => ⟨rfl, rfl, by omega⟩, (fun e => by cases e)⟩, fun e => by cases e⟩
  | behind qs h1 h2 h3 hG hc fin' hf =>
    subst h1; subst h2
    have ht0 := h.na rfl
    subst ht0
    have hnf := h.nf rfl
    obtain ⟨b, hbb⟩ : ∃ b, min (Dl - G) w = b := ⟨_, rfl⟩
    rw [hbb] at hc hf ⊢
    have hb0 : 0 < b ∧ b ≤ Dl - G ∧ b ≤ w := by omega
    have hfin1 : fin' = true → b = Dl - G := fun e => by rw [hf] at e; simpa using e
    have hfin0 : fin' = false → b < Dl - G := fun e => by rw [hf] at e; simp at e; omega
    have hbeh : ∀ q ∈ qs ++ (if fin' = true then [(⟨Dl, 0, 17⟩ : GSeg)] else []), G < q.off := by
      intro q hq
      rcases List.mem_append.1 hq with hq | hq
      · have := (chain_off _ _ _ hc q hq).1; omega
      · split at hq
        · rw [List.mem_singleton] at hq
          subst hq
          exact hG
        · cases hq
    obtain ⟨h', he, _⟩ := rvs_behind Dl G _ bs false false hbeh
    rw [he] at hmute ⊢
    have hkk : (sent < w ∧ mu Dl w G sent false false L = (Dl - G) + 3 * (59 - L) + 13) ∨ (sent = b ∧ fin' = false ∧ mu Dl w G sent false false L = (Dl - G) + 3 * (59 - L) + 12) := by
      by_cases hsw : sent < w
      · left
        refine ⟨hsw, ?_⟩
        unfold mu kap
        rw [if_pos hG, if_neg (by simp), if_neg (by omega), if_pos ⟨rfl, hsw⟩]
      · right
        refine ⟨by omega, ?_, ?_⟩
        · rw [hf]; simp; omega
        · unfold mu kap
          rw [if_pos hG, if_neg (by simp), if_neg (by omega), if_neg (by omega)]
    have hk12 : kap Dl w G b fin' false = 12 := by
      unfold kap
      rw [if_pos hG, if_neg (by simp), if_neg (by omega), if_neg (fun q => by have := hfin0 q.1; omega)]
    refine ⟨fun e => ?_, fun e => ?_⟩
    · refine ⟨Nat.le_refl _, by simp, hg, (fun e => by cases e), fun _ => ?_⟩
      simp only [Nat.sub_self, Nat.sub_zero]
      refine ⟨by have := turn_end (w := w) (by omega) hg hfin1 hfin0 G (Nat.le_refl _) (by omega); simpa using this, ?_⟩
      rcases hkk with ⟨_, hm⟩ | ⟨hsb, hff, hm⟩
      · rw [hm]; unfold mu; rw [hk12]; omega
      · -- nothing can be sent: nothing is heard
        exfalso
        have hq0 : qs = [] := by
          cases qs with
          | nil => rfl
          | cons q qs => obtain ⟨_, c2, _, c4, _⟩ := hc; omega
        subst hq0
        rw [hff] at he
        have : rvs Dl [] bs (G, false, false) = (G, false, false) := by unfold rvs; rfl
        simp only [List.nil_append, Bool.false_eq_true, if_false] at he
        rw [this] at he
        have h1 := congrArg (fun r : Nat × Bool × Bool => r.2.1) he
        simp only at h1 e
        rw [e] at h1
        cases h1
    · obtain ⟨_, hcnt⟩ := hmute e
      refine ⟨by simp only at e; rw [e], .inl hb0.1, by omega, ⟨hg, by omega, fun e => hfin1 e, fun e => .inl (hfin0 e), fun _ => ⟨by omega, by omega, ?_⟩, (fun e => by cases e), (fun e => by cases e)⟩, ?_⟩
      · cases hff : fin' with
        | true => exact .inl rfl
        | false => have := hfin0 hff; exact .inr (by omega)
      · have hk : kap Dl w G b fin' true = 11 := by unfold kap; rw [if_pos hG, if_pos rfl]
        rcases hkk with ⟨_, hm⟩ | ⟨_, _, hm⟩ <;> rw [hm] <;> unfold mu <;> omega
  | none h1 h2 =>
    subst h1; subst h2
    have ht0 := h.na rfl
    subst ht0
    have hsf := h.f rfl
    have hr : rvs Dl [] bs (G, false, false) = (G, false, false) := by unfold rvs; rfl
    obtain rfl : bs = [] := List.length_eq_zero_iff.1 hb
    rw [hr]
    refine ⟨(fun e => by cases e), fun _ => ⟨rfl, .inr rfl, by omega, ⟨hg, hs1, fun _ => hsf, (fun e => by cases e), fun _ => ⟨by omega, by omega, .inl rfl⟩, (fun e => by cases e), (fun e => by cases e)⟩, ?_⟩⟩
    have hc0 : cnt [] = 0 := rfl
    unfold mu kap
    rw [hc0]
    by_cases hG : G < Dl
    · rw [if_pos hG, if_pos hG, if_pos rfl, if_neg (by simp), if_neg (by simp), if_neg (by simp)]; omega
    · rw [if_neg hG, if_neg hG, if_pos rfl, if_neg (by simp), if_pos rfl]; omega
  | resent h2 h3 hG =>
    subst h2
    obtain ⟨ht1, ht2, ht3⟩ := h.ag rfl
    have hmu : mu Dl w G sent fin true L = (Dl - G) + 3 * (59 - L) + 11 := by unfold mu kap; rw [if_pos hG, if_pos rfl]
    rw [hmu]
    have hfin1 := h.f
    have hnf0 : fin = false → sent < Dl - G := fun e => by have := h.nf e; omega
    cases bs with
    | nil => cases hb
    | cons b0 bs =>
      obtain rfl : bs = [] := by cases bs with | nil => rfl | cons _ _ => simp at hb
      cases b0 with
      | true =>
        have hrv : rvs Dl [⟨G, min sent 1000, 16⟩] [true] (G, false, false) = (G, false, false) := by show rv Dl (G, false, false) ⟨G, min sent 1000, 16⟩ true = _; unfold rv; rw [if_pos rfl]
        have hcn : cnt [true] = 1 := rfl
        rw [hrv]
        have ht4 : t ≠ 4 := fun e => by have := ht e; rw [hcn] at this; cases this
        refine ⟨(fun e => by cases e), fun _ => ⟨rfl, .inl h3, by omega, ⟨hg, hs1, hfin1, fun e => .inl (hnf0 e), fun _ => ⟨by omega, by omega, ht3⟩, (fun e => by cases e), (fun e => by cases e)⟩, ?_⟩⟩
        have hk : kap Dl w G sent fin true = 11 := by unfold kap; rw [if_pos hG, if_pos rfl]
        rw [hcn] at hL ⊢
        unfold mu
        omega
      | false =>
        have hcn : cnt [false] = 0 := rfl
        have hrv : rvs Dl [⟨G, min sent 1000, 16⟩] [false] (G, false, false) = (G + min sent 1000, true, false) := by
          show rv Dl (G, false, false) ⟨G, min sent 1000, 16⟩ false = _
          unfold rv
          rw [if_neg (by simp)]
          have h16 : tBit 16 1 = false := by decide
          have h1 : G ≤ G ∧ G + min sent 1000 > G := by omega
          simp only [h16, if_pos h1, Bool.false_and, Bool.or_false, Bool.false_or]
          have h2 : decide (min sent 1000 > 0) = true := by simp; omega
          rw [h2]
        rw [hrv]
        refine ⟨fun _ => ⟨by simp only; omega, by simp only; omega, by simp only; omega, (fun e => by cases e), fun _ => ?_⟩, (fun e => by cases e)⟩
        refine ⟨turn_end (by omega) hg hfin1 hnf0 _ (by simp only; omega) (by simp only; omega), ?_⟩
        show mu Dl w (G + min sent 1000) (sent - (G + min sent 1000 - G)) fin false (L + cnt [false]) < _
        unfold mu
        rw [hcn]
        by_cases hend : G + min sent 1000 < Dl
        · by_cases hwk : sent ≤ 1000
          · have hz : sent - (G + min sent 1000 - G) = 0 := by omega
            have hf0 : fin = false := by
              cases hff : fin with
              | false => rfl
              | true => have := hfin1 hff; omega
            have hk : kap Dl w (G + min sent 1000) (sent - (G + min sent 1000 - G)) fin false = 10 := by unfold kap; rw [if_pos hend, if_neg (by simp), if_pos ⟨hz, hf0⟩]
            omega
          · have hk := kap_le (Dl := Dl) (w := w) (G := G + min sent 1000) (sent := sent - (G + min sent 1000 - G)) (fin := fin) (again := false)
            omega
        · have hk : kap Dl w (G + min sent 1000) (sent - (G + min sent 1000 - G)) fin false ≤ 5 := by unfold kap; rw [if_neg hend, if_neg (by simp)]; split <;> omega
          omega
end Go.Proofs.Ytahlcjkcdgahkaa
