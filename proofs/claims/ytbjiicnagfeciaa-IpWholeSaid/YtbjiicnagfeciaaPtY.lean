/- The steps of a packet's parts, beside another one's. -/
import Derived.Test.YtbjiicnagfeciaaPtX
namespace Go.Proofs.Ytbjiicnagfeciaa
open Go Go.RowKit

section
variable {p : Pk} {s n : Nat}
theorem pAdd_eq {l L : List Wt} {q : Pk} {W : Wt} (h1 : ¬ (q.off = 0 ∧ q.more = false)) (h2 : pWrong q = false) (hf : pFind l q.key = (L, W)) :
    pAdd l q = if pBeside W.parts W.fin q = 1 then (L, pkZero, 19) else if pBeside W.parts W.fin q = 2 then (pLose L q.key, pkZero, 15) else
      if (pWhole (pMore W q).k (pMore W q).parts (pMore W q).fin).2 then (pLose (pSet L (pMore W q)) q.key, (pWhole (pMore W q).k (pMore W q).parts (pMore W q).fin).1, 0) else (pSet L (pMore W q), pkZero, 19) := by
  unfold pAdd
  rw [if_neg h1, h2, if_neg (by simp), hf]
theorem find_head (W : Wt) (R : List Wt) (k : PKey) (h : W.k = k) : pFind (W :: R) k = (W :: R, W) := by
  unfold pFind
  rw [List.find?_cons_of_pos (by simp [h])]
theorem set_head (W W' : Wt) (R : List Wt) (hk : W.k = W'.k) (hR : ∀ x ∈ R, x.k ≠ W'.k) : pSet (W :: R) W' = W' :: R := by
  unfold pSet
  rw [List.map_cons, if_pos hk]
  congr 1
  have : R.map (fun y => if y.k = W'.k then W' else y) = R.map fun y => y := List.map_congr_left fun y hy => if_neg (hR y hy)
  rw [this, List.map_id']
theorem lose_head (W : Wt) (R : List Wt) (k : PKey) (hk : W.k = k) (hR : ∀ x ∈ R, x.k ≠ k) : pLose (W :: R) k = R := by
  unfold pLose
  rw [List.filter_cons, if_neg (by simp [hk]), List.filter_eq_self]
  intro x hx
  simpa using hR x hx
theorem step_again (h : CutOk p s n) (js : List Nat) (R : List Wt) (j : Nat) (hj : j < n) (hm : j ∈ js) : pAdd (cW p s n js :: R) (cq p s j) = (cW p s n js :: R, pkZero, 19) := by
  rw [pAdd_eq (cq_not h j hj) (cq_wrong h j hj) (find_head (cW p s n js) R (cq p s j).key rfl)]
  have : pBeside (cW p s n js).parts (cW p s n js).fin (cq p s j) = 1 := cq_again js _ j hm
  rw [if_pos this]
theorem step_fresh (h : CutOk p s n) (js : List Nat) (hd : js.Nodup) (hl : ∀ i ∈ js, i < n) (R : List Wt) (hR : ∀ x ∈ R, x.k ≠ p.key) (j : Nat) (hj : j < n) (hm : j ∉ js) :
    (js.length + 1 < n → pAdd (cW p s n js :: R) (cq p s j) = (cW p s n (js ++ [j]) :: R, pkZero, 19)) ∧
    (js.length + 1 = n → pAdd (cW p s n js :: R) (cq p s j) = (R, ⟨p.src, p.dst, p.proto, p.id, 0, false, true, p.ttl, p.body⟩, 0)) := by
  have hd2 : (js ++ [j]).Nodup := by
    rw [List.nodup_append]
    exact ⟨hd, by simp, fun a ha b hb => by simp at hb; subst hb; exact fun e => hm (e ▸ ha)⟩
  have hl2 : ∀ i ∈ js ++ [j], i < n := fun i hi => by
    rcases List.mem_append.1 hi with hi | hi
    · exact hl i hi
    · simp at hi; subst hi; exact hj
  obtain ⟨w1, w2⟩ := cwhole h (js ++ [j]) hd2 hl2
  have hb : pBeside (cW p s n js).parts (cW p s n js).fin (cq p s j) = 0 := cq_fresh h js hl j hj hm
  have hs := set_head (cW p s n js) (cW p s n (js ++ [j])) R rfl hR
  have e : pAdd (cW p s n js :: R) (cq p s j) = if (pWhole p.key ((js ++ [j]).map (cq p s)) (cfin p n (js ++ [j]))).2 then (pLose (cW p s n (js ++ [j]) :: R) p.key, (pWhole p.key ((js ++ [j]).map (cq p s)) (cfin p n (js ++ [j]))).1, 0) else (cW p s n (js ++ [j]) :: R, pkZero, 19) := by
    rw [pAdd_eq (cq_not h j hj) (cq_wrong h j hj) (find_head (cW p s n js) R (cq p s j).key rfl), hb, if_neg (by decide), if_neg (by decide), cq_more_w h js j hj, hs]
    rfl
  rw [e]
  refine ⟨fun hn => ?_, fun hn => ?_⟩
  · rw [w1 (by simp; omega), if_neg (by simp)]
  · rw [w2 (by simp; omega), if_pos rfl, lose_head (cW p s n (js ++ [j])) R p.key rfl hR]
theorem step_first (h : CutOk p s n) (R : List Wt) (hR : ∀ x ∈ R, x.k ≠ p.key) (h4 : R.length < 4) (j : Nat) (hj : j < n) : (pAdd R (cq p s j)).2.2 = 19 ∧ (R = [] → pAdd R (cq p s j) = ([cW p s n [j]], pkZero, 19)) := by
  have hf : pFind R p.key = (R ++ [cW p s n []], cW p s n []) := by
    unfold pFind
    have : R.find? (fun x => decide (x.k = p.key)) = none := List.find?_eq_none.2 fun x hx => by simpa using hR x hx
    rw [this]
    simp only
    rw [if_neg (by omega)]
    have : n - 1 ∉ ([] : List Nat) := by simp
    unfold cW cfin
    rw [if_neg this]
    rfl
  obtain ⟨w1, _⟩ := cwhole h [j] (by simp) (by simpa using hj)
  have hb : pBeside (cW p s n []).parts (cW p s n []).fin (cq p s j) = 0 := cq_fresh h [] (by simp) j hj (by simp)
  have hm := cq_more_w h [] j hj
  rw [List.nil_append] at hm
  have e : pAdd R (cq p s j) = (pSet (R ++ [cW p s n []]) (cW p s n [j]), pkZero, 19) := by
    have hw1 : (pWhole (cW p s n [j]).k (cW p s n [j]).parts (cW p s n [j]).fin).2 = false := w1 h.n1
    rw [pAdd_eq (cq_not h j hj) (cq_wrong h j hj) (show pFind R (cq p s j).key = _ from hf), hb, if_neg (by decide), if_neg (by decide), hm, hw1, if_neg (by simp)]
  rw [e]
  refine ⟨rfl, fun hr => ?_⟩
  subst hr
  rw [List.nil_append, set_head (cW p s n []) (cW p s n [j]) [] rfl (by simp)]
/-- another packet's part comes -/
theorem step_other (js : List Nat) (o : Pk) (hk : o.key ≠ p.key) (hm : o.more = true) (ho : o.off = 8) (h8 : o.body.length % 8 = 0) (h0 : 0 < o.body.length) (h4 : o.body.length ≤ 4008) :
    (pAdd [cW p s n js] o).1 = [cW p s n js, ⟨o.key, [o], -1, 0⟩] := by
  have hw : pWrong o = false := by
    have e1 : decide (o.body.length = 0) = false := decide_eq_false (by omega)
    have e2 : decide (o.body.length % 8 ≠ 0) = false := decide_eq_false (by omega)
    have e3 : decide (65515 < o.body.length) = false := decide_eq_false (by omega)
    have e4 : decide (65515 - (o.body.length : Int) < 8) = false := decide_eq_false (by omega)
    unfold pWrong
    rw [hm, ho, e1, e2, e3, e4]
    rfl
  have hf : pFind [cW p s n js] o.key = ([cW p s n js, ⟨o.key, [], -1, 0⟩], ⟨o.key, [], -1, 0⟩) := by
    unfold pFind
    have : [cW p s n js].find? (fun x => decide (x.k = o.key)) = none := List.find?_eq_none.2 fun x hx => by
      rw [List.mem_singleton] at hx
      subst hx
      rw [decide_eq_true_eq]
      exact fun e => hk e.symm
    rw [this]
    simp
  have hb : pBeside [] (-1) o = 0 := by
    unfold pBeside
    simp
  have hmo : pMore ⟨o.key, [], -1, 0⟩ o = ⟨o.key, [o], -1, 0⟩ := by
    unfold pMore
    simp [hm]
  rw [pAdd_eq (by rw [ho]; simp) hw hf]
  have hb' : pBeside (⟨o.key, [], -1, 0⟩ : Wt).parts (⟨o.key, [], -1, 0⟩ : Wt).fin o = 0 := hb
  rw [hb', if_neg (by decide), if_neg (by decide), hmo]
  have hw2 : (pWhole (⟨o.key, [o], -1, 0⟩ : Wt).k (⟨o.key, [o], -1, 0⟩ : Wt).parts (⟨o.key, [o], -1, 0⟩ : Wt).fin).2 = false := rfl
  rw [hw2, if_neg (by simp)]
  have : ¬ (cW p s n js).k = o.key := fun e => hk e.symm
  simp [pSet, this]
end
end Go.Proofs.Ytbjiicnagfeciaa
