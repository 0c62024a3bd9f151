/- What Cut tells has a plan. -/
import Derived.Test.YtbjiicnagfeciaaPtP
import Derived.Test.YtbjiicnagfeciaaBase
namespace Go.Proofs.Ytbjiicnagfeciaa
open Go Go.RowKit

/-- the other packet's part -/
def othPk (o : Pk) (id' : Int) : Pk := ⟨o.src, o.dst, o.proto, id', 8, true, o.whole, o.ttl, o.body.take (o.body.length / 8 * 8) ++ [1, 2, 3, 4, 5, 6, 7, 8]⟩
theorem next_id (id : Int) (h1 : -9223372036854775808 ≤ id) (h2 : id ≤ 9223372036854775807) : IntKind.i64.wrap (id + 1) ≠ id ∧ -9223372036854775808 ≤ IntKind.i64.wrap (id + 1) ∧ IntKind.i64.wrap (id + 1) ≤ 9223372036854775807 := by
  by_cases e : id = 9223372036854775807
  · subst e
    have : IntKind.i64.wrap (9223372036854775807 + 1) = -9223372036854775808 := by decide
    rw [this]
    omega
  · rw [IntWalk.i64_in _ (by omega)]
    omega
theorem oth_len (o : Pk) (id' : Int) : (othPk o id').body.length = o.body.length / 8 * 8 + 8 := by
  simp [othPk]
  omega
theorem cut_plan (p o : Pk) (mk : Nat) (id' : Int) (hm : p.more = false) (ho : p.off = 0) (hl : p.body.length ≤ 4000) (hol : o.body.length ≤ 4000) (hid' : id' ≠ p.id) :
    ∃ l I, ipCut p (28 + (mk : Int)) = (l, 0) ∧ 0 < l.length ∧ l.length ≤ 4000 ∧ (∀ q ∈ l, q.key = p.key ∧ q.body.length ≤ 4000) ∧ Plan p (othPk o id') l I := by
  have hol2 := oth_len o id'
  have hc0 : ¬ (28 + (mk : Int) < 28) := by omega
  have hc1 : ¬ (p.more = true ∨ p.off ≠ 0) := by simp [hm, ho]
  have hc2 : ¬ p.body.length > 65515 := by omega
  by_cases hf : (p.body.length : Int) ≤ 28 + (mk : Int) - 20
  · refine ⟨[{ p with whole := true }], _, ?_, by simp, by simp, ?_, plan_one p _ hm ho⟩
    · unfold ipCut
      rw [if_neg hc0, if_neg hc1, if_neg hc2, if_pos hf]
    · intro q hq
      simp at hq
      subst hq
      exact ⟨rfl, hl⟩
  · obtain ⟨s, hs⟩ : ∃ s, ipSize (28 + (mk : Int)) = s := ⟨_, rfl⟩
    have hs1 : s % 8 = 0 ∧ 8 ≤ s ∧ s < p.body.length := by
      unfold ipSize at hs
      omega
    obtain ⟨n, hn⟩ : ∃ n, (p.body.length + s - 1) / s = n := ⟨_, rfl⟩
    have hlt : ∀ j, j < n ↔ j * s < p.body.length := fun j => by rw [← hn]; exact cut_lt _ _ (by omega) (by omega) j
    have hck : CutOk p s n := ⟨hm, ho, hs1.1, by omega, hl, hlt, (hlt 1).2 (by omega)⟩
    have hnl : n ≤ 4000 := by
      have := (hlt (n - 1)).1 (by have := hck.n1; omega)
      have h2 : n - 1 ≤ (n - 1) * s := Nat.le_mul_of_pos_right _ (by omega)
      omega
    have hlen : (partsOf p s (List.range n)).length = n := by rw [partsOf_len, List.length_range]
    have hat : ∀ k (hk : k < (partsOf p s (List.range n)).length), (partsOf p s (List.range n))[k] = cq p s k := by
      intro k hk
      simp [partsOf, cq]
    refine ⟨partsOf p s (List.range n), _, ?_, by have := hck.n1; omega, by omega, ?_, plan_many p (othPk o id') s n hck ?_ rfl rfl (by rw [hol2]; omega) (by rw [hol2]; omega) (by rw [hol2]; omega) _ hlen hat⟩
    · unfold ipCut
      rw [if_neg hc0, if_neg hc1, if_neg hc2, if_neg hf, hs, hn]
    · intro q hq
      obtain ⟨k, hk, rfl⟩ := List.mem_iff_getElem.1 hq
      rw [hat k hk]
      exact ⟨rfl, by rw [cq_len]; omega⟩
    · intro e
      unfold Pk.key othPk at e
      injection e with _ _ _ e
      exact hid' e
end Go.Proofs.Ytbjiicnagfeciaa
