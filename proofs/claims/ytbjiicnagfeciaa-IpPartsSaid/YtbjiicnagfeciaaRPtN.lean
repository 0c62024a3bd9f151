/- The document's whole is the program's. -/
import Derived.Test.YtbjiicnagfeciaaRPtS
namespace Go.Proofs.Ytbjiicnagfeciaa
section
open Go Go.RowKit

def cnt (p : Nat → Bool) : Nat → Nat
  | 0 => 0
  | n + 1 => cnt p n + if p n then 1 else 0
theorem cnt_or (p q : Nat → Bool) (h : ∀ t, ¬ (p t = true ∧ q t = true)) (n : Nat) : cnt (fun t => p t || q t) n = cnt p n + cnt q n := by
  induction n with
  | zero => rfl
  | succ n ih =>
    unfold cnt
    rw [ih]
    have := h n
    cases h1 : p n <;> cases h2 : q n <;> simp_all <;> omega
theorem cnt_le (p : Nat → Bool) (n : Nat) : cnt p n ≤ n := by
  induction n with
  | zero => exact Nat.le_refl _
  | succ n ih => unfold cnt; split <;> omega
theorem cnt_all (p : Nat → Bool) (n : Nat) : cnt p n = n ↔ ∀ t, t < n → p t = true := by
  induction n with
  | zero => simp [cnt]
  | succ n ih =>
    unfold cnt
    have hl := cnt_le p n
    constructor
    · intro h t ht
      cases hp : p n with
      | false => rw [hp] at h; simp at h; omega
      | true =>
        rw [hp] at h
        simp at h
        by_cases e : t = n
        · subst e; exact hp
        · exact ih.1 h t (by omega)
    · intro h
      rw [h n (by omega), ih.2 fun t ht => h t (by omega)]
      rfl
theorem cnt_int (a l n : Nat) : cnt (fun t => decide (a ≤ t) && decide (t < a + l)) n = min n (a + l) - min n a := by
  induction n with
  | zero => simp [cnt]
  | succ n ih =>
    unfold cnt
    rw [ih]
    by_cases h1 : a ≤ n <;> by_cases h2 : n < a + l <;> simp [h1, h2] <;> omega
theorem cnt_none (n : Nat) : cnt (fun _ => false) n = 0 := by
  induction n with
  | zero => rfl
  | succ n ih => unfold cnt; rw [ih]; rfl
def covOne (q : Pk) (t : Nat) : Bool := decide (q.off ≤ (t : Int)) && decide ((t : Int) < q.to)
def cov (ps : List Pk) (t : Nat) : Bool := ps.any (covOne · t)
theorem psum_cov (ps : List Pk) (n : Nat) (ha : ps.Pairwise fun a b => a.to ≤ b.off ∨ b.to ≤ a.off) (hi : ∀ q ∈ ps, 0 ≤ q.off ∧ q.to ≤ n) : pSum ps = cnt (cov ps) n := by
  induction ps with
  | nil => exact (cnt_none n).symm
  | cons q ps ih =>
    rw [List.pairwise_cons] at ha
    have hq := hi q (List.mem_cons_self ..)
    obtain ⟨a, ha0⟩ : ∃ a : Nat, q.off = a := ⟨q.off.toNat, by omega⟩
    have e1 : cov (q :: ps) = fun t => covOne q t || cov ps t := by funext t; simp [cov]
    have e2 : covOne q = fun t => decide (a ≤ t) && decide (t < a + q.body.length) := by
      funext t
      unfold covOne Pk.to
      rw [ha0]
      congr 1 <;> (apply decide_eq_decide.2; omega)
    have hto : q.to = ((a + q.body.length : Nat) : Int) := by unfold Pk.to; omega
    have e3 : cnt (covOne q) n = q.body.length := by rw [e2, cnt_int]; omega
    rw [e1, cnt_or, e3, ← ih ha.2 fun r hr => hi r (List.mem_cons_of_mem _ hr)]
    · unfold pSum; simp
    · rintro t ⟨h1, h2⟩
      simp only [cov, List.any_eq_true] at h2
      obtain ⟨r, hr, h2⟩ := h2
      have := ha.1 r hr
      simp only [covOne, Bool.and_eq_true, decide_eq_true_eq] at h1 h2
      omega
/-- two that overlap are one -/
theorem apart_one {ps : List Pk} (ha : ps.Pairwise fun a b => a.to ≤ b.off ∨ b.to ≤ a.off) {q r : Pk} (hq : q ∈ ps) (hr : r ∈ ps) (h : ¬ (q.to ≤ r.off ∨ r.to ≤ q.off)) : q = r := by
  induction ps with
  | nil => cases hq
  | cons a ps ih =>
    rw [List.pairwise_cons] at ha
    rcases List.mem_cons.1 hq with rfl | hq2
    · rcases List.mem_cons.1 hr with rfl | hr2
      · rfl
      · exact absurd (ha.1 r hr2) h
    · rcases List.mem_cons.1 hr with rfl | hr2
      · exact absurd (ha.1 q hq2) (fun e => h e.symm)
      · exact ih ha.2 hq2 hr2
theorem blit_atR (b bs : List UInt8) (off t : Nat) (h : off + bs.length ≤ b.length) : (blit b (off : Int) bs)[t]? = if t < off then b[t]? else if t < off + bs.length then bs[t - off]? else b[t]? := by
  unfold blit
  rw [Int.toNat_natCast]
  by_cases h1 : t < off
  · rw [if_pos h1, List.append_assoc, List.getElem?_append_left (by simp; omega), List.getElem?_take_of_lt h1]
  · rw [if_neg h1]
    by_cases h2 : t < off + bs.length
    · rw [if_pos h2, List.append_assoc, List.getElem?_append_right (by simp; omega), List.length_take, Nat.min_eq_left (by omega), List.getElem?_append_left (by omega)]
    · rw [if_neg h2, List.getElem?_append_right (by simp; omega), List.getElem?_drop]
      simp only [List.length_append, List.length_take]
      congr 1
      omega
theorem pbody_at (ps : List Pk) (n : Nat) : ∀ (B : List UInt8), B.length = n → ps.Pairwise (fun a b => a.to ≤ b.off ∨ b.to ≤ a.off) → (∀ q ∈ ps, 0 ≤ q.off ∧ q.to ≤ n) →
    (ps.foldl (fun b x => blit b x.off x.body) B).length = n ∧ (∀ t : Nat, cov ps t = false → (ps.foldl (fun b x => blit b x.off x.body) B)[t]? = B[t]?) ∧ ∀ q ∈ ps, ∀ t : Nat, covOne q t = true → (ps.foldl (fun b x => blit b x.off x.body) B)[t]? = q.body[t - q.off.toNat]? := by
  induction ps with
  | nil => intro B hB _ _; exact ⟨hB, fun _ _ => rfl, fun q hq => by cases hq⟩
  | cons q ps ih =>
    intro B hB ha hi
    rw [List.pairwise_cons] at ha
    have hq := hi q (List.mem_cons_self ..)
    obtain ⟨a, ha0⟩ : ∃ a : Nat, q.off = a := ⟨q.off.toNat, by omega⟩
    have hto : q.to = ((a + q.body.length : Nat) : Int) := by unfold Pk.to; omega
    have hfit : a + q.body.length ≤ B.length := by omega
    have hat := fun t => blit_atR B q.body a t hfit
    have hlen : (blit B q.off q.body).length = n := by rw [ha0]; unfold blit; simp; omega
    obtain ⟨i1, i2, i3⟩ := ih (blit B q.off q.body) hlen ha.2 fun r hr => hi r (List.mem_cons_of_mem _ hr)
    refine ⟨i1, fun t ht => ?_, fun r hr t ht => ?_⟩
    · simp only [cov, List.any_cons, Bool.or_eq_false_iff] at ht
      rw [List.foldl_cons, i2 t ht.2, ha0, hat]
      have := ht.1
      simp only [covOne, Bool.and_eq_false_iff, decide_eq_false_iff_not] at this
      by_cases h1 : t < a
      · rw [if_pos h1]
      · rw [if_neg h1, if_neg (by omega)]
    · rcases List.mem_cons.1 hr with rfl | hr
      · have hn : cov ps t = false := by
          rw [cov, List.any_eq_false]
          intro s hs h2
          have := ha.1 s hs
          simp only [covOne, Bool.and_eq_true, decide_eq_true_eq] at ht h2
          omega
        simp only [covOne, Bool.and_eq_true, decide_eq_true_eq] at ht
        rw [List.foldl_cons, i2 t hn, ha0, hat, if_neg (by omega), if_pos (by omega), Int.toNat_natCast]
      · exact i3 r hr t ht
end
section
open Go Go.RowKit

theorem rW_twn (ps : List Pk) : ∀ (fuel : Nat) (out : List UInt8) (tt : Int), rW (ps.map twn) fuel out tt = rW ps fuel out tt := by
  intro fuel
  induction fuel with
  | zero => intro out tt; rfl
  | succ f ih =>
    intro out tt
    simp only [rW, List.find?_map]
    have e : (rNext out.length ∘ twn) = rNext out.length := rfl
    rw [e]
    cases ps.find? (rNext out.length) with
    | none => rfl
    | some q =>
      simp only [Option.map_some]
      have e1 : (twn q).more = q.more := rfl
      have e2 : (twn q).body = q.body := rfl
      have e3 : (twn q).ttl = q.ttl := rfl
      rw [e1, e2, e3, ih]
theorem pttl_at (ps : List Pk) (T : Int) : ∀ t, (∀ q ∈ ps, q.off = 0 → q.ttl = T) → (t = T ∨ ∃ q ∈ ps, q.off = 0) → ps.foldl (fun t (x : Pk) => if x.off = 0 then x.ttl else t) t = T := by
  induction ps with
  | nil =>
    intro t _ h
    rcases h with h | ⟨q, hq, _⟩
    · exact h
    · cases hq
  | cons q ps ih =>
    intro t h1 h2
    rw [List.foldl_cons]
    refine ih _ (fun r hr => h1 r (List.mem_cons_of_mem _ hr)) ?_
    by_cases e : q.off = 0
    · rw [if_pos e]; exact .inl (h1 q (List.mem_cons_self ..) e)
    · rw [if_neg e]
      rcases h2 with h2 | ⟨r, hr, hr0⟩
      · exact .inl h2
      · rcases List.mem_cons.1 hr with rfl | hr
        · exact absurd hr0 e
        · exact .inr ⟨r, hr, hr0⟩

/-- how far the bytes in order have come -/
structure Chn (ps : List Pk) (out : List UInt8) (tt : Int) : Prop where
  at_ : ∀ t, t < out.length → ∃ q ∈ ps, covOne q t = true ∧ out[t]? = q.body[t - q.off.toNat]?
  last : out.length = 0 ∨ ∃ s ∈ ps, s.more = true ∧ s.off < (out.length : Int) ∧ s.to = (out.length : Int)
  ttl : out.length = 0 ∨ ∃ s ∈ ps, s.off = 0 ∧ tt = s.ttl
open Classical in
theorem chain_law {x : Wt} (h : Snd x) : ∀ (fuel : Nat) (out : List UInt8) (tt : Int), Chn x.parts out tt → 65516 ≤ fuel + out.length → out.length ≤ 65515 →
    rW x.parts fuel out tt = if 0 ≤ x.fin ∧ ∀ t : Nat, (t : Int) < x.fin → cov x.parts t = true then some (pBody x.fin.toNat x.parts, pTtl x.parts) else none := by
  intro fuel
  induction fuel with
  | zero => intro out tt _ h1 h2; omega
  | succ f ih =>
    intro out tt hc hf hl
    have hoff := h.ok.off
    cases e : x.parts.find? (rNext out.length) with
    | none =>
      simp only [rW, e]
      rw [if_neg]
      rintro ⟨hfin, hcov⟩
      have hno := List.find?_eq_none.1 e
      rcases h.fin with q | ⟨q0, hq0, hq0m⟩
      · omega
      have hq0f := (h.fins q0 hq0 hq0m).2
      by_cases hcf : (out.length : Int) < x.fin
      · have h1 := hcov out.length hcf
        simp only [cov, List.any_eq_true] at h1
        obtain ⟨r, hr, h1⟩ := h1
        simp only [covOne, Bool.and_eq_true, decide_eq_true_eq] at h1
        by_cases hro : r.off = (out.length : Int)
        · refine absurd ?_ (hno r hr)
          unfold rNext
          have : r.body.length ≠ 0 := by have := h1.2; unfold Pk.to at this; omega
          simp [hro, this]
        · rcases hc.last with h0 | ⟨s, hs, hsm, hs1, hs2⟩
          · have := (hoff r hr).1; omega
          · have : s = r := apart_one h.apart hs hr (by omega)
            subst this
            omega
      · have hle := h.ok.le hfin
        have hce : (out.length : Int) = x.fin := by
          rcases hc.last with h0 | ⟨s, hs, _, _, hs2⟩
          · omega
          · have := hle s hs; omega
        by_cases hqo : q0.off = (out.length : Int)
        · refine absurd ?_ (hno q0 hq0)
          unfold rNext
          simp [hqo, hq0m]
        · have hq0o : q0.off < (out.length : Int) := by
            have : (0 : Int) ≤ q0.body.length := by omega
            unfold Pk.to at hq0f
            omega
          rcases hc.last with h0 | ⟨s, hs, hsm, hs1, hs2⟩
          · have := (hoff q0 hq0).1; omega
          · have : s = q0 := apart_one h.apart hs hq0 (by omega)
            subst this
            rw [hsm] at hq0m
            cases hq0m
    | some q =>
      have hq := List.mem_of_find?_eq_some e
      have hn := List.find?_some e
      simp only [rNext, Bool.and_eq_true, decide_eq_true_eq] at hn
      have hqo := hn.1
      have hqt : q.to = ((out.length + q.body.length : Nat) : Int) := by unfold Pk.to; omega
      have hat2 : ∀ t, t < (out ++ q.body).length → ∃ r ∈ x.parts, covOne r t = true ∧ (out ++ q.body)[t]? = r.body[t - r.off.toNat]? := by
        intro t ht
        rw [List.length_append] at ht
        by_cases h1 : t < out.length
        · obtain ⟨r, hr, a, b⟩ := hc.at_ t h1
          exact ⟨r, hr, a, by rw [List.getElem?_append_left h1]; exact b⟩
        · refine ⟨q, hq, ?_, ?_⟩
          · simp only [covOne, Bool.and_eq_true, decide_eq_true_eq]; omega
          · rw [List.getElem?_append_right (by omega)]
            congr 1
            omega
      have httl : out.length + q.body.length = 0 ∨ ∃ s ∈ x.parts, s.off = 0 ∧ (if out.length = 0 then q.ttl else tt) = s.ttl := by
        by_cases h0 : out.length = 0
        · rw [if_pos h0]; exact .inr ⟨q, hq, by omega, rfl⟩
        · rw [if_neg h0]
          rcases hc.ttl with h1 | h1
          · omega
          · exact .inr h1
      simp only [rW, e]
      cases hm : q.more with
      | true =>
        have hq1 := h.size q hq hm
        simp only [if_true]
        have hq2 := (hoff q hq).2
        refine ih _ _ ⟨hat2, .inr ⟨q, hq, hm, by rw [List.length_append]; omega, by rw [List.length_append]; exact hqt⟩, ?_⟩ (by rw [List.length_append]; omega) (by rw [List.length_append]; omega)
        rw [List.length_append]
        exact httl
      | false =>
        obtain ⟨hf1, hf2⟩ := h.fins q hq hm
        have hall : ∀ t : Nat, (t : Int) < x.fin → cov x.parts t = true := fun t ht => by
          obtain ⟨r, hr, a, _⟩ := hat2 t (by rw [List.length_append]; omega)
          exact List.any_eq_true.2 ⟨r, hr, a⟩
        simp only [Bool.false_eq_true, if_false]
        rw [if_pos (show 0 ≤ x.fin ∧ ∀ t : Nat, (t : Int) < x.fin → cov x.parts t = true from ⟨hf1, hall⟩)]
        simp only [Option.some.injEq, Prod.mk.injEq]
        have hle := h.ok.le hf1
        obtain ⟨i1, _, i3⟩ := pbody_at x.parts x.fin.toNat (List.replicate x.fin.toNat 0) (by simp) h.apart (fun r hr => ⟨(hoff r hr).1, by have := hle r hr; omega⟩)
        constructor
        · apply List.ext_getElem?
          intro t
          by_cases ht : t < (out ++ q.body).length
          · obtain ⟨r, hr, a, b⟩ := hat2 t ht
            rw [b]
            exact (i3 r hr t a).symm
          · have hl2 : (pBody x.fin.toNat x.parts).length = x.fin.toNat := i1
            rw [List.length_append] at ht
            rw [List.getElem?_eq_none (by rw [List.length_append]; omega), List.getElem?_eq_none (by rw [hl2]; omega)]
        · have hpos : 0 < out.length + q.body.length := by
            have := h.last q hq hm
            omega
          rcases httl with h0 | ⟨s, hs, hs0, hst⟩
          · omega
          · rw [hst]
            refine (pttl_at x.parts s.ttl 0 (fun r hr hr0 => ?_) (.inr ⟨s, hs, hs0⟩)).symm
            have hne : ∀ r ∈ x.parts, r.off = 0 → 0 < r.body.length := fun r hr hr0 => by
              cases hrm : r.more with
              | true => exact h.size r hr hrm
              | false => have := h.last r hr hrm; omega
            have : r = s := apart_one h.apart hr hs (by
              have a1 := hne r hr hr0
              have a2 := hne s hs hs0
              unfold Pk.to
              omega)
            rw [this]
theorem whole_law {x : Wt} (h : Snd x) (k : PKey) : rW (x.parts.map twn) 65516 [] 0 = if (pWhole k x.parts x.fin).2 then some ((pWhole k x.parts x.fin).1.body, (pWhole k x.parts x.fin).1.ttl) else none := by
  rw [rW_twn, chain_law h 65516 [] 0 ⟨fun t ht => absurd ht (Nat.not_lt_zero _), .inl rfl, .inl rfl⟩ (by simp) (by simp)]
  unfold pWhole
  by_cases hf : x.fin < 0
  · rw [if_pos hf, if_neg (by omega), if_neg (by simp)]
  · rw [if_neg hf]
    have hle := h.ok.le (by omega)
    have hs := psum_cov x.parts x.fin.toNat h.apart (fun r hr => ⟨(h.ok.off r hr).1, by have := hle r hr; omega⟩)
    have hc := cnt_all (cov x.parts) x.fin.toNat
    by_cases hall : ∀ t : Nat, (t : Int) < x.fin → cov x.parts t = true
    · rw [if_pos ⟨by omega, hall⟩, if_pos]
      have := hc.2 fun t ht => hall t (by omega)
      simp only [decide_eq_true_eq]
      omega
    · rw [if_neg (fun q => hall q.2), if_neg]
      simp only [decide_eq_true_eq]
      intro e2
      exact hall fun t ht => hc.1 (by omega) t (by omega)
end
end Go.Proofs.Ytbjiicnagfeciaa
