/- The parts of one packet beside one another. -/
import Derived.Test.YtbjiicnagfeciaaPtW
namespace Go.Proofs.Ytbjiicnagfeciaa
open Go Go.RowKit

/-- how a packet is cut: its bytes, a part's size, how many parts -/
structure CutOk (p : Pk) (s n : Nat) : Prop where
  more : p.more = false
  off : p.off = 0
  s8 : s % 8 = 0
  s0 : 0 < s
  T : p.body.length ≤ 4000
  lt : ∀ j, j < n ↔ j * s < p.body.length
  n1 : 1 < n
theorem cut_lt (T s : Nat) (hs : 0 < s) (hT : 0 < T) (j : Nat) : j < (T + s - 1) / s ↔ j * s < T := by
  rw [Nat.lt_iff_add_one_le, Nat.le_div_iff_mul_le hs, Nat.add_mul, Nat.one_mul]
  omega
section
variable {p : Pk} {s n : Nat}
def cq (p : Pk) (s j : Nat) : Pk := partOf p s j j
theorem cq_off (p : Pk) (s j : Nat) : (cq p s j).off = ((j * s : Nat) : Int) := rfl
theorem cq_len (p : Pk) (s j : Nat) : (cq p s j).body.length = min s (p.body.length - j * s) := by simp [cq, partOf]
theorem cq_to (h : CutOk p s n) (j : Nat) (hj : j < n) : (cq p s j).to = ((min (j * s + s) p.body.length : Nat) : Int) := by
  have := (h.lt j).1 hj
  unfold Pk.to
  rw [cq_off, cq_len]
  omega
theorem cq_more (h : CutOk p s n) (j : Nat) (hj : j < n) : (cq p s j).more = decide (j + 1 < n) := by
  have h1 := (h.lt j).1 hj
  have h2 := h.lt (j + 1)
  rw [Nat.add_mul, Nat.one_mul] at h2
  show decide (j * s + min s (p.body.length - j * s) < p.body.length) = _
  apply decide_eq_decide.2
  omega
theorem cq_key (p : Pk) (s j : Nat) : (cq p s j).key = p.key := rfl
theorem cq_not (h : CutOk p s n) (j : Nat) (hj : j < n) : ¬ ((cq p s j).off = 0 ∧ (cq p s j).more = false) := by
  rintro ⟨h1, h2⟩
  rw [cq_off] at h1
  rw [cq_more h j hj] at h2
  have h3 : j * s = 0 := by omega
  rcases Nat.mul_eq_zero.1 h3 with h4 | h4
  · subst h4
    have := h.n1
    simp at h2
    omega
  · have := h.s0; omega
theorem cq_wrong (h : CutOk p s n) (j : Nat) (hj : j < n) : pWrong (cq p s j) = false := by
  have h1 := (h.lt j).1 hj
  have hT := h.T
  have h8 := h.s8
  have h0 := h.s0
  have hj8 : (j * s) % 8 = 0 := by rw [Nat.mul_mod, h8]; simp
  have hm := cq_more h j hj
  have h2 := h.lt (j + 1)
  rw [Nat.add_mul, Nat.one_mul] at h2
  unfold pWrong
  rw [hm, cq_off, cq_len]
  by_cases e : j + 1 < n
  · have h3 := h2.1 e
    have : min s (p.body.length - j * s) = s := by omega
    rw [this]
    simp [e]
    omega
  · simp [e]
    omega
theorem cq_far (h : CutOk p s n) (i j : Nat) (hi : i < n) (hj : j < n) (hne : i ≠ j) : pSame (cq p s i) (cq p s j) = false ∧ pClash (cq p s i) (cq p s j) = false := by
  have h0 := h.s0
  have hi1 := (h.lt i).1 hi
  have hj1 := (h.lt j).1 hj
  have hij : i * s + s ≤ j * s ∨ j * s + s ≤ i * s := by
    rcases Nat.lt_or_gt_of_ne hne with q | q
    · left
      have := Nat.mul_le_mul_right s (show i + 1 ≤ j by omega)
      rw [Nat.add_mul, Nat.one_mul] at this
      exact this
    · right
      have := Nat.mul_le_mul_right s (show j + 1 ≤ i by omega)
      rw [Nat.add_mul, Nat.one_mul] at this
      exact this
  have h2 := h.lt (j + 1)
  rw [Nat.add_mul, Nat.one_mul] at h2
  constructor
  · unfold pSame
    rw [cq_off, cq_off]
    have : decide (((i * s : Nat) : Int) = ((j * s : Nat) : Int)) = false := decide_eq_false (by omega)
    rw [this]
    rfl
  · unfold pClash
    rw [cq_off, cq_off, cq_to h i hi, cq_to h j hj, cq_more h j hj]
    have e1 : (decide (((i * s : Nat) : Int) < ((min (j * s + s) p.body.length : Nat) : Int)) && decide (((j * s : Nat) : Int) < ((min (i * s + s) p.body.length : Nat) : Int))) = false := by
      rw [Bool.and_eq_false_iff, decide_eq_false_iff_not, decide_eq_false_iff_not]
      omega
    rw [e1, Bool.false_or]
    by_cases e : j + 1 < n
    · simp [e]
    · simp only [e, decide_false, Bool.not_false, Bool.true_and, decide_eq_false_iff_not]
      omega
/-- the end, if it is known -/
def cfin (p : Pk) (n : Nat) (js : List Nat) : Int := if n - 1 ∈ js then (p.body.length : Int) else -1
def cW (p : Pk) (s n : Nat) (js : List Nat) : Wt := ⟨p.key, js.map (cq p s), cfin p n js, 0⟩
theorem cq_again (js : List Nat) (fin : Int) (j : Nat) (hj : j ∈ js) : pBeside (js.map (cq p s)) fin (cq p s j) = 1 := by
  unfold pBeside
  rw [if_pos]
  rw [List.any_eq_true]
  exact ⟨_, List.mem_map_of_mem hj, by simp [pSame]⟩
theorem cq_fresh (h : CutOk p s n) (js : List Nat) (hl : ∀ i ∈ js, i < n) (j : Nat) (hj : j < n) (hn : j ∉ js) : pBeside (js.map (cq p s)) (cfin p n js) (cq p s j) = 0 := by
  unfold pBeside
  have h1 : (js.map (cq p s)).any (pSame · (cq p s j)) = false := by
    rw [List.any_eq_false]
    intro x hx
    obtain ⟨i, hi, rfl⟩ := List.mem_map.1 hx
    rw [(cq_far h i j (hl i hi) hj (fun e => hn (e ▸ hi))).1]
    decide
  have h2 : (js.map (cq p s)).any (pClash · (cq p s j)) = false := by
    rw [List.any_eq_false]
    intro x hx
    obtain ⟨i, hi, rfl⟩ := List.mem_map.1 hx
    rw [(cq_far h i j (hl i hi) hj (fun e => hn (e ▸ hi))).2]
    decide
  rw [h1, h2, cq_to h j hj, cq_more h j hj]
  unfold cfin
  by_cases e : n - 1 ∈ js
  · have hjn : j ≠ n - 1 := fun q => hn (q ▸ e)
    have hjn2 : j + 1 < n := by omega
    rw [if_pos e]
    simp [hjn2]
    omega
  · rw [if_neg e]
    simp
theorem cq_more_w (h : CutOk p s n) (js : List Nat) (j : Nat) (hj : j < n) : pMore (cW p s n js) (cq p s j) = cW p s n (js ++ [j]) := by
  unfold pMore cW
  simp only [List.map_append, List.map_cons, List.map_nil, Wt.mk.injEq, true_and, and_true]
  rw [cq_more h j hj, cq_to h j hj]
  have h2 := h.lt (j + 1)
  rw [Nat.add_mul, Nat.one_mul] at h2
  have h1 := (h.lt j).1 hj
  have := h.n1
  unfold cfin
  by_cases e : j + 1 < n
  · have e2 : n - 1 ∈ js ++ [j] ↔ n - 1 ∈ js := by simp; omega
    by_cases e3 : n - 1 ∈ js
    · rw [if_pos e3, if_pos (e2.2 e3)]; simp [e]
    · rw [if_neg e3, if_neg (fun q => e3 (e2.1 q))]; simp [e]
  · have e3 : n - 1 ∈ js ++ [j] := by simp; omega
    rw [if_pos e3]
    simp only [e, decide_false, Bool.false_eq_true, if_false]
    omega
theorem csum_all (h : CutOk p s n) : ∀ m, m ≤ n → sumIn (fun j => (cq p s j).body.length) (List.range m) m = min (m * s) p.body.length := by
  intro m
  induction m with
  | zero => intro _; simp [sumIn]
  | succ m ih =>
    intro hm
    have h1 := (h.lt m).1 (by omega)
    unfold sumIn
    rw [(sumIn_le _ [] m).2 (m + 1) (by omega), ih (by omega), if_pos (List.mem_range.2 (by omega)), cq_len, Nat.add_mul, Nat.one_mul]
    omega
theorem csum (h : CutOk p s n) (js : List Nat) (hd : js.Nodup) (hl : ∀ i ∈ js, i < n) : (js.length < n → pSum (js.map (cq p s)) < p.body.length) ∧ (js.length = n → pSum (js.map (cq p s)) = p.body.length) := by
  have e : pSum (js.map (cq p s)) = sumIn (fun j => (cq p s j).body.length) js n := by
    unfold pSum
    rw [List.map_map]
    exact sum_of _ n js hd hl
  have ha := csum_all h n (Nat.le_refl n)
  have hT : min (n * s) p.body.length = p.body.length := by have := h.lt n; omega
  rw [e]
  refine ⟨fun hn => ?_, fun hn => ?_⟩
  · obtain ⟨j, hj, hnj⟩ := lack_of n js hn hd hl
    have := sumIn_lack (fun j => (cq p s j).body.length) js n j hj hnj (by rw [cq_len]; have := (h.lt j).1 hj; have := h.s0; omega)
    omega
  · rw [sumIn_all _ js n (all_of n js hd hl hn)]
    omega
theorem blit_at (b bs : List UInt8) (off t : Nat) (h : off + bs.length ≤ b.length) : (blit b (off : Int) bs)[t]? = if t < off then b[t]? else if t < off + bs.length then bs[t - off]? else b[t]? := by
  unfold blit
  rw [Int.toNat_natCast]
  by_cases h1 : t < off
  · rw [if_pos h1, List.append_assoc, List.getElem?_append_left (by simp; omega), List.getElem?_take_of_lt h1]
  · rw [if_neg h1]
    by_cases h2 : t < off + bs.length
    · rw [if_pos h2, List.append_assoc, List.getElem?_append_right (by simp; omega), List.length_take, Nat.min_eq_left (by omega), List.getElem?_append_left (by omega)]
    · rw [if_neg h2, List.getElem?_append_right (by simp; omega), List.getElem?_drop]
      simp only [List.length_append, List.length_take]
      congr 1
      omega
theorem cbody (h : CutOk p s n) (js : List Nat) : ∀ (B : List UInt8) (P : Nat → Prop), (∀ i ∈ js, i < n) → B.length = p.body.length → (∀ t, t < p.body.length → P t → B[t]? = p.body[t]?) →
    ((js.map (cq p s)).foldl (fun b x => blit b x.off x.body) B).length = p.body.length ∧ ∀ t, t < p.body.length → (P t ∨ t / s ∈ js) → ((js.map (cq p s)).foldl (fun b x => blit b x.off x.body) B)[t]? = p.body[t]? := by
  induction js with
  | nil =>
    intro B P _ hB hP
    refine ⟨hB, fun t ht q => hP t ht ?_⟩
    rcases q with q | q
    · exact q
    · cases q
  | cons j js ih =>
    intro B P hl hB hP
    have hj := hl j (List.mem_cons_self ..)
    have h1 := (h.lt j).1 hj
    have h0 := h.s0
    have hlen := cq_len p s j
    have hfit : j * s + (cq p s j).body.length ≤ B.length := by rw [hlen, hB]; omega
    have hat := blit_at B (cq p s j).body (j * s)
    have hnew : (blit B ((j * s : Nat) : Int) (cq p s j).body).length = p.body.length := by
      unfold blit; simp; omega
    obtain ⟨i1, i2⟩ := ih (blit B ((j * s : Nat) : Int) (cq p s j).body) (fun t => P t ∨ t / s = j) (fun i hi => hl i (List.mem_cons_of_mem _ hi)) hnew (fun t ht q => by
      rw [hat t hfit]
      have hts : t / s = j ↔ j * s ≤ t ∧ t < j * s + s := by
        rw [Nat.div_eq_iff h0]
        constructor <;> intro q <;> omega
      have hin : j * s ≤ t → t < j * s + (cq p s j).body.length → (cq p s j).body[t - j * s]? = p.body[t]? := fun a b => by
        show (((p.body.drop (j * s)).take s))[t - j * s]? = _
        rw [List.getElem?_take_of_lt (by omega), List.getElem?_drop]
        congr 1
        omega
      by_cases a : t < j * s
      · rw [if_pos a]
        rcases q with q | q
        · exact hP t ht q
        · have := hts.1 q; omega
      · rw [if_neg a]
        by_cases b : t < j * s + (cq p s j).body.length
        · rw [if_pos b]; exact hin (by omega) b
        · rw [if_neg b]
          rcases q with q | q
          · exact hP t ht q
          · have := hts.1 q; omega)
    refine ⟨i1, fun t ht q => i2 t ht ?_⟩
    rcases q with q | q
    · exact .inl (.inl q)
    · rcases List.mem_cons.1 q with q | q
      · exact .inl (.inr q)
      · exact .inr q
theorem cttl (p : Pk) (s : Nat) (js : List Nat) : ∀ t, (js.map (cq p s)).foldl (fun t (x : Pk) => if x.off = 0 then x.ttl else t) t = if 0 ∈ js ∨ t = p.ttl ∨ (s = 0 ∧ js ≠ []) then (if 0 ∈ js ∨ (s = 0 ∧ js ≠ []) then p.ttl else t) else t := by
  induction js with
  | nil => intro t; simp
  | cons j js ih =>
    intro t
    rw [List.map_cons, List.foldl_cons, ih, cq_off]
    have : (cq p s j).ttl = p.ttl := rfl
    rw [this]
    by_cases e : ((j * s : Nat) : Int) = 0
    · rw [if_pos e]
      have e2 : j = 0 ∨ s = 0 := Nat.mul_eq_zero.1 (by omega)
      rcases e2 with e2 | e2
      · subst e2; simp
      · subst e2; simp
    · rw [if_neg e]
      have e2 : j ≠ 0 := fun q => by subst q; simp at e
      have e3 : s ≠ 0 := fun q => by subst q; simp at e
      simp [e3, Ne.symm e2]
theorem cwhole (h : CutOk p s n) (js : List Nat) (hd : js.Nodup) (hl : ∀ i ∈ js, i < n) :
    (js.length < n → (pWhole p.key (js.map (cq p s)) (cfin p n js)).2 = false) ∧ (js.length = n → pWhole p.key (js.map (cq p s)) (cfin p n js) = (⟨p.src, p.dst, p.proto, p.id, 0, false, true, p.ttl, p.body⟩, true)) := by
  obtain ⟨c1, c2⟩ := csum h js hd hl
  have h1 := h.n1
  refine ⟨fun hn => ?_, fun hn => ?_⟩
  · unfold pWhole cfin
    by_cases e : n - 1 ∈ js
    · rw [if_pos e, if_neg (by omega)]
      have := c1 hn
      simp
      omega
    · rw [if_neg e, if_pos (by decide)]
  · have hall := all_of n js hd hl hn
    have e : n - 1 ∈ js := hall _ (by omega)
    unfold pWhole cfin
    rw [if_pos e, if_neg (by omega), Int.toNat_natCast]
    have hb : pBody p.body.length (js.map (cq p s)) = p.body := by
      obtain ⟨i1, i2⟩ := cbody h js (List.replicate p.body.length 0) (fun _ => False) hl (by simp) (fun _ _ q => q.elim)
      apply List.ext_getElem?
      intro t
      by_cases ht : t < p.body.length
      · refine i2 t ht (.inr (hall _ ?_))
        rw [h.lt]
        exact Nat.lt_of_le_of_lt (Nat.div_mul_le_self t s) ht
      · rw [List.getElem?_eq_none (by have : (pBody p.body.length (js.map (cq p s))).length = p.body.length := i1; omega), List.getElem?_eq_none (by omega)]
    have ht : pTtl (js.map (cq p s)) = p.ttl := by
      unfold pTtl
      rw [cttl]
      have : 0 ∈ js := hall 0 (by omega)
      simp [this]
    have hs := c2 hn
    rw [hb, ht, hs]
    simp [Pk.key]
end
end Go.Proofs.Ytbjiicnagfeciaa
