/- Contract of ip.Cut. -/
import Derived.Test.YtbjiicnagfeciaaIpCutB
namespace Go.Proofs.Ytbjiicnagfeciaa
open Go Go.RowKit

theorem ipCut_any (v : Value) (p : Pk) (mtu : Int) (w : World) (h : Bs w v p.body) (h1 : -9223372036854775808 ≤ mtu) (h2 : mtu ≤ 9223372036854775807) :
    Calls Try.prog 11 #[.agg (pkCells p v).toArray, .int .i64 mtu] w fun e w' => ∃ v', e = .returned (.tuple #[v', .int .i64 (ipCut p mtu).2]) ∧
      OwnPkL w' w.heap.size 25 5 v' (ipCut p mtu).1 ∧ Below w.heap.size w w' := by
  by_cases hfew : mtu < 28 ∨ p.more = true ∨ p.off ≠ 0 ∨ p.body.length > 65515 ∨ (p.body.length : Int) ≤ mtu - 20
  · exact ipCut_few v p mtu w h h1 h2 hfew
  obtain ⟨src, dst, proto, id, off, more, whole, ttl, body⟩ := p
  simp only [not_or] at hfew
  obtain ⟨g1, g2, g3, g4, g5⟩ := hfew
  have g2' : more = false := by simpa using g2
  have g3' : off = 0 := by simpa using g3
  subst g2'; subst g3'
  have hr : ipCut ⟨src, dst, proto, id, 0, false, whole, ttl, body⟩ mtu = (partsOf ⟨src, dst, proto, id, 0, false, whole, ttl, body⟩ (ipSize mtu) (List.range ((body.length + ipSize mtu - 1) / ipSize mtu)), 0) := by
    simp only [ipCut]
    rw [if_neg g1, if_neg (by simp), if_neg g4, if_neg g5]
  rw [hr]
  simp only at h g4 g5
  obtain ⟨hl, A, cap, hv, k1, k2, hc⟩ := h
  rcases hc with hc | ⟨b, off, rfl, hc⟩
  · omega
  subst hv
  exact ipCut_many b off cap src dst proto id whole ttl body mtu (ipSize mtu) w ⟨hl, _, _, rfl, k1, k2, .inr ⟨b, off, rfl, hc⟩⟩ (by omega) h2 (by omega) g5 (by unfold ipSize; omega)
end Go.Proofs.Ytbjiicnagfeciaa
