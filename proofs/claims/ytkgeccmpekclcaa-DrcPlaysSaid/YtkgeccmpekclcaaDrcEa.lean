/- The document's table's End. -/
import Derived.Test.YtkgeccmpekclcaaDrcZ
import Derived.Deep.Cut
import Derived.Deep.CutRange
namespace Go.Proofs.Ytkgeccmpekclcaa
open Go Go.RowKit
attribute [local go_sem ↓] Go.wp_at_zero Go.wp_at_succ
set_option maxRecDepth 100000

theorem endAt_map {L : List RIt} {k : DKey} {j : Nat} (hj : j < L.length) : endAt (L.map RIt.c) k j = (decide (L[j].c.key = k) && !L[j].c.done) := by simp [endAt, hj]

set_option maxHeartbeats 4000000 in
theorem rend_none (base gX n gm gr cap : Nat) (L : List RIt) (k : DKey) (v : Value) (r : List UInt8) (w : World) (h : RefAt w base gX n L (.slice (some ⟨gr, 0, none⟩) L.length cap)) (hoff : ∀ x ∈ L, x.rv.ownBlock ≠ some gm) (hb : base ≤ w.heap.size) (hl : L.length ≤ 100000) (hr : ∀ w', Below base w w' → Bs w' v r) (hd : fidx (endAt (L.map RIt.c) k) (L.map RIt.c).length = none) :
    Calls Try.prog 13 #[ptrV (some gX), k.val, v] w (REndPost base gX n gm (L.map RIt.c) k r w) := by
  have Hr := hid (show drcEnd (L.map RIt.c) k r = (L.map RIt.c, 2) by unfold drcEnd; rw [hd])
  have Hno := hid (fidx_not hd)
  clear hd
  have Hoff := hid hoff
  have Hb := hid hb
  have Hl := hid hl
  have HR := hid hr
  obtain ⟨k1, k2, k3, k4, k5⟩ := k
  dsimp only [DKey.val, DKey.cells]
  have K1 := hid (h.keep (below_alloc w (.cells #[.int .u32 (k1 : Int), .int .i64 k2, .int .u32 (k3 : Int), .int .u32 (k4 : Int), .int .u32 (k5 : Int)] 40)))
  have hkey : Blk (w.alloc (.cells #[.int .u32 (k1 : Int), .int .i64 k2, .int .u32 (k3 : Int), .int .u32 (k4 : Int), .int .u32 (k5 : Int)] 40)) w.heap.size 40 #[.int .u32 (k1 : Int), .int .i64 k2, .int .u32 (k3 : Int), .int .u32 (k4 : Int), .int .u32 (k5 : Int)].toList := Blk.new _ _ _
  have Hkey := hid hkey
  clear hkey h hoff hb hl hr
  have Hrow := hid K1.out.row
  have hc1 : (w.alloc (.cells #[.int .u32 (k1 : Int), .int .i64 k2, .int .u32 (k3 : Int), .int .u32 (k4 : Int), .int .u32 (k5 : Int)] 40)).cell? ⟨gX, 1, none⟩ = some (.slice (some ⟨gr, 0, none⟩) L.length cap) := K1.out.tab.cell 1
  unfold ptrV
  go_enter Try.func13, Try.ntmps13
  go_wp2_with fail
  go_loopw [7] (fun i wr => ∃ (j q : Nat), j ≤ L.length ∧ i = .int .i64 (j : Int) ∧ wr = (w.alloc (.cells #[.int .u32 (k1 : Int), .int .i64 k2, .int .u32 (k3 : Int), .int .u32 (k4 : Int), .int .u32 (k5 : Int)] 40)).drewN q) (fun i _ => L.length - (intOf i).toNat)
  case atStart => exact ⟨0, 0, Nat.zero_le _, rfl, rfl⟩
  case round =>
    obtain ⟨j, q, hj, rfl, rfl⟩ := hrel
    by_cases hlt : j < L.length
    · have hltI : (j : Int) < (L.length : Int) := by omega
      have hcx : ∀ f (hf : f < 7) x, L[j].cells[f]? = some x → (w.alloc (.cells #[.int .u32 (k1 : Int), .int .i64 k2, .int .u32 (k3 : Int), .int .u32 (k4 : Int), .int .u32 (k5 : Int)] 40)).cell? ⟨gr, j * 7 + f, none⟩ = some x := fun f hf x hx => by rw [Hrow.out.cellAt (j * 7 + f) (by omega)]; exact (rCells_at L j f hlt hf).trans hx
      obtain ⟨⟨⟨⟨a1, a2, a3, a4, a5⟩, done, reply⟩, rv⟩, hx⟩ : ∃ x, L[j] = x := ⟨_, rfl⟩
      rw [hx] at hcx
      have Hx := hid hx
      obtain ⟨wr, hwr⟩ : ∃ wr, wr = (w.alloc (.cells #[.int .u32 (k1 : Int), .int .i64 k2, .int .u32 (k3 : Int), .int .u32 (k4 : Int), .int .u32 (k5 : Int)] 40)).drewN q := ⟨_, rfl⟩
      have Hwr := hid hwr
      have hcy : ∀ f (hf : f < 7) x, (callCells ⟨a1, a2, a3, a4, a5⟩ done rv)[f]? = some x → wr.cell? ⟨gr, j * 7 + f, none⟩ = some x := by rw [hwr]; exact hcx
      have c0 : wr.cell? ⟨gr, j * 7, none⟩ = some (.int .u32 (a1 : Int)) := hcy 0 (by decide) _ rfl
      have c1 : wr.cell? ⟨gr, j * 7 + 1, none⟩ = some (.int .i64 a2) := hcy 1 (by decide) _ rfl
      have c2 : wr.cell? ⟨gr, j * 7 + 2, none⟩ = some (.int .u32 (a3 : Int)) := hcy 2 (by decide) _ rfl
      have c3 : wr.cell? ⟨gr, j * 7 + 3, none⟩ = some (.int .u32 (a4 : Int)) := hcy 3 (by decide) _ rfl
      have c4 : wr.cell? ⟨gr, j * 7 + 4, none⟩ = some (.int .u32 (a5 : Int)) := hcy 4 (by decide) _ rfl
      have c5 : wr.cell? ⟨gr, j * 7 + 5, none⟩ = some (.bool done) := hcy 5 (by decide) _ rfl
      have hk : Blk wr w.heap.size 40 #[.int .u32 (k1 : Int), .int .i64 k2, .int .u32 (k3 : Int), .int .u32 (k4 : Int), .int .u32 (k5 : Int)].toList := by rw [hwr]; exact Hkey.out.drewN q
      have d0 := hk.cell 0
      have d1 := hk.cell 1
      have d2 := hk.cell 2
      have d3 := hk.cell 3
      have d4 := hk.cell 4
      have c9 : wr.cell? ⟨gX, 1, none⟩ = some (.slice (some ⟨gr, 0, none⟩) L.length cap) := by rw [hwr]; exact hc1
      rw [← hwr]
      clear hwr hcx hk hcy
      go_wp2_with fail
      go_cut [37] from 17 to 37 (fun t wx => (∃ q', wx = wr.drewN q') ∧ t = .bool (decide ((⟨a1, a2, a3, a4, a5⟩ : DKey) = (⟨k1, k2, k3, k4, k5⟩ : DKey)) && !done))
      case first =>
        (by_cases e1 : a1 = k1); (case neg => (have f1 : decide ((a1 : Int) = (k1 : Int)) = false := decide_eq_false (by omega)); (have f2 : ((a1 : Int) == (k1 : Int)) = false := by simp; omega); (have f3 : ¬ (a1 : Int) = (k1 : Int) := by omega); (have He := hid (show decide ((⟨a1, a2, a3, a4, a5⟩ : DKey) = (⟨k1, k2, k3, k4, k5⟩ : DKey)) = false from decide_eq_false (fun e => e1 (by injection e)))); clear e1; (go_quiet (fail)); go_wp2; go_meet; (case rel => exact ⟨⟨_, rfl⟩, by rw [He.out, Bool.false_and]⟩)); subst a1; (by_cases e2 : a2 = k2); (case neg => (have f1 : decide (a2 = k2) = false := decide_eq_false (by omega)); (have f2 : (a2 == k2) = false := by simp; omega); (have f3 : ¬ a2 = k2 := by omega); (have He := hid (show decide ((⟨k1, a2, a3, a4, a5⟩ : DKey) = (⟨k1, k2, k3, k4, k5⟩ : DKey)) = false from decide_eq_false (fun e => e2 (by injection e)))); clear e2; (go_quiet (fail)); go_wp2; go_meet; (case rel => exact ⟨⟨_, rfl⟩, by rw [He.out, Bool.false_and]⟩)); subst a2; (by_cases e3 : a3 = k3); (case neg => (have f1 : decide ((a3 : Int) = (k3 : Int)) = false := decide_eq_false (by omega)); (have f2 : ((a3 : Int) == (k3 : Int)) = false := by simp; omega); (have f3 : ¬ (a3 : Int) = (k3 : Int) := by omega); (have He := hid (show decide ((⟨k1, k2, a3, a4, a5⟩ : DKey) = (⟨k1, k2, k3, k4, k5⟩ : DKey)) = false from decide_eq_false (fun e => e3 (by injection e)))); clear e3; (go_quiet (fail)); go_wp2; go_meet; (case rel => exact ⟨⟨_, rfl⟩, by rw [He.out, Bool.false_and]⟩)); subst a3; (by_cases e4 : a4 = k4); (case neg => (have f1 : decide ((a4 : Int) = (k4 : Int)) = false := decide_eq_false (by omega)); (have f2 : ((a4 : Int) == (k4 : Int)) = false := by simp; omega); (have f3 : ¬ (a4 : Int) = (k4 : Int) := by omega); (have He := hid (show decide ((⟨k1, k2, k3, a4, a5⟩ : DKey) = (⟨k1, k2, k3, k4, k5⟩ : DKey)) = false from decide_eq_false (fun e => e4 (by injection e)))); clear e4; (go_quiet (fail)); go_wp2; go_meet; (case rel => exact ⟨⟨_, rfl⟩, by rw [He.out, Bool.false_and]⟩)); subst a4; (by_cases e5 : a5 = k5); (case neg => (have f1 : decide ((a5 : Int) = (k5 : Int)) = false := decide_eq_false (by omega)); (have f2 : ((a5 : Int) == (k5 : Int)) = false := by simp; omega); (have f3 : ¬ (a5 : Int) = (k5 : Int) := by omega); (have He := hid (show decide ((⟨k1, k2, k3, k4, a5⟩ : DKey) = (⟨k1, k2, k3, k4, k5⟩ : DKey)) = false from decide_eq_false (fun e => e5 (by injection e)))); clear e5; (go_quiet (fail)); go_wp2; go_meet; (case rel => exact ⟨⟨_, rfl⟩, by rw [He.out, Bool.false_and]⟩)); subst a5; (cases done with | true => (go_quiet (fail)); go_wp2; go_meet; (case rel => exact ⟨⟨_, rfl⟩, by simp⟩) | false => (go_quiet (fail)); go_wp2; go_meet; (case rel => exact ⟨⟨_, rfl⟩, by simp⟩))
      case rest =>
      obtain ⟨⟨q1, rfl⟩, rfl⟩ := hcut
      have hd : (decide ((⟨a1, a2, a3, a4, a5⟩ : DKey) = (⟨k1, k2, k3, k4, k5⟩ : DKey)) && !done) = false := by
        have := Hno.out j (by rw [List.length_map]; exact hlt)
        rw [endAt_map hlt, Hx.out] at this
        exact this
      rw [hd]
      have hl := Hl.out
      go_wp2_with fail
      exact ⟨⟨j + 1, q + q1, by omega, val_int (by omega), by rw [Hwr.out]; simp [World.drewN, Nat.add_assoc]⟩, by simp [intOf]; omega⟩
    · have hjL : j = L.length := by omega
      subst hjL
      have hltI : ¬ (L.length : Int) < (L.length : Int) := by omega
      go_wp2_with fail
      go_ret
      unfold REndPost
      rw [Hr.out]
      have hB := below_drewN (below_alloc w (.cells #[.int .u32 (k1 : Int), .int .i64 k2, .int .u32 (k3 : Int), .int .u32 (k4 : Int), .int .u32 (k5 : Int)] 40)) q
      exact ⟨rfl, ⟨L, _, rfl, K1.out.keep (below_drewN (Below.refl _ _) q), Hoff.out⟩, hB.mono Hb.out, Below.rspares hB⟩

set_option maxHeartbeats 4000000 in
theorem rend_some (base gX n gm gr cap : Nat) (L : List RIt) (k : DKey) (v : Value) (r : List UInt8) (w : World) (h : RefAt w base gX n L (.slice (some ⟨gr, 0, none⟩) L.length cap)) (hoff : ∀ x ∈ L, x.rv.ownBlock ≠ some gm) (hgm : gm < w.heap.size) (hb : base ≤ w.heap.size) (hl : L.length ≤ 100000) (hr : ∀ w', Below base w w' → Bs w' v r) (hrl : r.length ≤ 1099511627776) (J : Nat) (hd : fidx (endAt (L.map RIt.c) k) (L.map RIt.c).length = some J) :
    Calls Try.prog 13 #[ptrV (some gX), k.val, v] w (REndPost base gX n gm (L.map RIt.c) k r w) := by
  have Hr := hid (show drcEnd (L.map RIt.c) k r = ((L.map RIt.c).set J ⟨k, true, r⟩, 0) by unfold drcEnd; rw [hd])
  have Hgm := hid hgm
  have Hrl := hid hrl
  obtain ⟨hJ1, hJ2, hJ3⟩ := fidx_first hd
  rw [List.length_map] at hJ1
  have HJ2 := hid hJ2
  have HJ3 := hid hJ3
  clear hd hgm hJ2 hJ3 hrl
  have Hoff := hid hoff
  have Hb := hid hb
  have Hl := hid hl
  have HR := hid hr
  obtain ⟨k1, k2, k3, k4, k5⟩ := k
  dsimp only [DKey.val, DKey.cells]
  have K1 := hid (h.keep (below_alloc w (.cells #[.int .u32 (k1 : Int), .int .i64 k2, .int .u32 (k3 : Int), .int .u32 (k4 : Int), .int .u32 (k5 : Int)] 40)))
  have hkey : Blk (w.alloc (.cells #[.int .u32 (k1 : Int), .int .i64 k2, .int .u32 (k3 : Int), .int .u32 (k4 : Int), .int .u32 (k5 : Int)] 40)) w.heap.size 40 #[.int .u32 (k1 : Int), .int .i64 k2, .int .u32 (k3 : Int), .int .u32 (k4 : Int), .int .u32 (k5 : Int)].toList := Blk.new _ _ _
  have Hkey := hid hkey
  clear hkey h hoff hb hl hr
  have Hrow := hid K1.out.row
  have hc1 : (w.alloc (.cells #[.int .u32 (k1 : Int), .int .i64 k2, .int .u32 (k3 : Int), .int .u32 (k4 : Int), .int .u32 (k5 : Int)] 40)).cell? ⟨gX, 1, none⟩ = some (.slice (some ⟨gr, 0, none⟩) L.length cap) := K1.out.tab.cell 1
  unfold ptrV
  go_enter Try.func13, Try.ntmps13
  go_wp2_with fail
  go_loopw [7] (fun i wr => ∃ (j q : Nat), j ≤ J ∧ i = .int .i64 (j : Int) ∧ wr = (w.alloc (.cells #[.int .u32 (k1 : Int), .int .i64 k2, .int .u32 (k3 : Int), .int .u32 (k4 : Int), .int .u32 (k5 : Int)] 40)).drewN q) (fun i _ => L.length - (intOf i).toNat)
  case atStart => exact ⟨0, 0, Nat.zero_le _, rfl, rfl⟩
  case round =>
    obtain ⟨j, q, hj, rfl, rfl⟩ := hrel
    have hlt : j < L.length := by omega
    have hltI : (j : Int) < (L.length : Int) := by omega
    have hcx : ∀ f (hf : f < 7) x, L[j].cells[f]? = some x → (w.alloc (.cells #[.int .u32 (k1 : Int), .int .i64 k2, .int .u32 (k3 : Int), .int .u32 (k4 : Int), .int .u32 (k5 : Int)] 40)).cell? ⟨gr, j * 7 + f, none⟩ = some x := fun f hf x hx => by rw [Hrow.out.cellAt (j * 7 + f) (by omega)]; exact (rCells_at L j f hlt hf).trans hx
    obtain ⟨⟨⟨⟨a1, a2, a3, a4, a5⟩, done, reply⟩, rv⟩, hx⟩ : ∃ x, L[j] = x := ⟨_, rfl⟩
    rw [hx] at hcx
    have Hx := hid hx
    obtain ⟨wr, hwr⟩ : ∃ wr, wr = (w.alloc (.cells #[.int .u32 (k1 : Int), .int .i64 k2, .int .u32 (k3 : Int), .int .u32 (k4 : Int), .int .u32 (k5 : Int)] 40)).drewN q := ⟨_, rfl⟩
    have Hwr := hid hwr
    have hcy : ∀ f (hf : f < 7) x, (callCells ⟨a1, a2, a3, a4, a5⟩ done rv)[f]? = some x → wr.cell? ⟨gr, j * 7 + f, none⟩ = some x := by rw [hwr]; exact hcx
    have c0 : wr.cell? ⟨gr, j * 7, none⟩ = some (.int .u32 (a1 : Int)) := hcy 0 (by decide) _ rfl
    have c1 : wr.cell? ⟨gr, j * 7 + 1, none⟩ = some (.int .i64 a2) := hcy 1 (by decide) _ rfl
    have c2 : wr.cell? ⟨gr, j * 7 + 2, none⟩ = some (.int .u32 (a3 : Int)) := hcy 2 (by decide) _ rfl
    have c3 : wr.cell? ⟨gr, j * 7 + 3, none⟩ = some (.int .u32 (a4 : Int)) := hcy 3 (by decide) _ rfl
    have c4 : wr.cell? ⟨gr, j * 7 + 4, none⟩ = some (.int .u32 (a5 : Int)) := hcy 4 (by decide) _ rfl
    have c5 : wr.cell? ⟨gr, j * 7 + 5, none⟩ = some (.bool done) := hcy 5 (by decide) _ rfl
    have hk : Blk wr w.heap.size 40 #[.int .u32 (k1 : Int), .int .i64 k2, .int .u32 (k3 : Int), .int .u32 (k4 : Int), .int .u32 (k5 : Int)].toList := by rw [hwr]; exact Hkey.out.drewN q
    have d0 := hk.cell 0
    have d1 := hk.cell 1
    have d2 := hk.cell 2
    have d3 := hk.cell 3
    have d4 := hk.cell 4
    have c9 : wr.cell? ⟨gX, 1, none⟩ = some (.slice (some ⟨gr, 0, none⟩) L.length cap) := by rw [hwr]; exact hc1
    rw [← hwr]
    clear hwr hcx hk hcy
    go_wp2_with fail
    go_cut [37] from 17 to 37 (fun t wx => (∃ q', wx = wr.drewN q') ∧ t = .bool (decide ((⟨a1, a2, a3, a4, a5⟩ : DKey) = (⟨k1, k2, k3, k4, k5⟩ : DKey)) && !done))
    case first =>
      (by_cases e1 : a1 = k1); (case neg => (have f1 : decide ((a1 : Int) = (k1 : Int)) = false := decide_eq_false (by omega)); (have f2 : ((a1 : Int) == (k1 : Int)) = false := by simp; omega); (have f3 : ¬ (a1 : Int) = (k1 : Int) := by omega); (have He := hid (show decide ((⟨a1, a2, a3, a4, a5⟩ : DKey) = (⟨k1, k2, k3, k4, k5⟩ : DKey)) = false from decide_eq_false (fun e => e1 (by injection e)))); clear e1; (go_quiet (fail)); go_wp2; go_meet; (case rel => exact ⟨⟨_, rfl⟩, by rw [He.out, Bool.false_and]⟩)); subst a1; (by_cases e2 : a2 = k2); (case neg => (have f1 : decide (a2 = k2) = false := decide_eq_false (by omega)); (have f2 : (a2 == k2) = false := by simp; omega); (have f3 : ¬ a2 = k2 := by omega); (have He := hid (show decide ((⟨k1, a2, a3, a4, a5⟩ : DKey) = (⟨k1, k2, k3, k4, k5⟩ : DKey)) = false from decide_eq_false (fun e => e2 (by injection e)))); clear e2; (go_quiet (fail)); go_wp2; go_meet; (case rel => exact ⟨⟨_, rfl⟩, by rw [He.out, Bool.false_and]⟩)); subst a2; (by_cases e3 : a3 = k3); (case neg => (have f1 : decide ((a3 : Int) = (k3 : Int)) = false := decide_eq_false (by omega)); (have f2 : ((a3 : Int) == (k3 : Int)) = false := by simp; omega); (have f3 : ¬ (a3 : Int) = (k3 : Int) := by omega); (have He := hid (show decide ((⟨k1, k2, a3, a4, a5⟩ : DKey) = (⟨k1, k2, k3, k4, k5⟩ : DKey)) = false from decide_eq_false (fun e => e3 (by injection e)))); clear e3; (go_quiet (fail)); go_wp2; go_meet; (case rel => exact ⟨⟨_, rfl⟩, by rw [He.out, Bool.false_and]⟩)); subst a3; (by_cases e4 : a4 = k4); (case neg => (have f1 : decide ((a4 : Int) = (k4 : Int)) = false := decide_eq_false (by omega)); (have f2 : ((a4 : Int) == (k4 : Int)) = false := by simp; omega); (have f3 : ¬ (a4 : Int) = (k4 : Int) := by omega); (have He := hid (show decide ((⟨k1, k2, k3, a4, a5⟩ : DKey) = (⟨k1, k2, k3, k4, k5⟩ : DKey)) = false from decide_eq_false (fun e => e4 (by injection e)))); clear e4; (go_quiet (fail)); go_wp2; go_meet; (case rel => exact ⟨⟨_, rfl⟩, by rw [He.out, Bool.false_and]⟩)); subst a4; (by_cases e5 : a5 = k5); (case neg => (have f1 : decide ((a5 : Int) = (k5 : Int)) = false := decide_eq_false (by omega)); (have f2 : ((a5 : Int) == (k5 : Int)) = false := by simp; omega); (have f3 : ¬ (a5 : Int) = (k5 : Int) := by omega); (have He := hid (show decide ((⟨k1, k2, k3, k4, a5⟩ : DKey) = (⟨k1, k2, k3, k4, k5⟩ : DKey)) = false from decide_eq_false (fun e => e5 (by injection e)))); clear e5; (go_quiet (fail)); go_wp2; go_meet; (case rel => exact ⟨⟨_, rfl⟩, by rw [He.out, Bool.false_and]⟩)); subst a5; (cases done with | true => (go_quiet (fail)); go_wp2; go_meet; (case rel => exact ⟨⟨_, rfl⟩, by simp⟩) | false => (go_quiet (fail)); go_wp2; go_meet; (case rel => exact ⟨⟨_, rfl⟩, by simp⟩))
    case rest =>
    obtain ⟨⟨q1, rfl⟩, rfl⟩ := hcut
    by_cases hjJ : j = J
    · subst hjJ
      have hd : (decide ((⟨a1, a2, a3, a4, a5⟩ : DKey) = (⟨k1, k2, k3, k4, k5⟩ : DKey)) && !done) = true := by
        have := HJ2.out
        rw [endAt_map hlt, Hx.out] at this
        exact this
      rw [hd]
      simp only [Bool.and_eq_true, decide_eq_true_eq, Bool.not_eq_true'] at hd
      have Hd := hid hd
      have Kq := hid (show RefAt (wr.drewN q1) base gX n L (.slice (some ⟨gr, 0, none⟩) L.length cap) by rw [Hwr.out]; exact K1.out.keep (below_drewN (below_drewN (Below.refl _ _) q) q1))
      have HB := hid (show Below w.heap.size w (wr.drewN q1) by rw [Hwr.out]; exact below_drewN (below_drewN (below_alloc w _) q) q1)
      have c5q : (wr.drewN q1).cell? ⟨gr, j * 7 + 5, none⟩ = some (.bool done) := c5
      have z5q := Kq.out.row.frozenAt (j * 7 + 5)
      have c9q : (wr.drewN q1).cell? ⟨gX, 1, none⟩ = some (.slice (some ⟨gr, 0, none⟩) L.length cap) := c9
      clear c0 c1 c2 c3 c4 c5 c9 d0 d1 d2 d3 d4 hd hc1
      generalize wr.drewN q1 = wq at *
      go_upto_region 6 with fail
      have hrow := Kq.out.row
      obtain ⟨hrow5, hg5⟩ := hrow.stored (j * 7 + 5) (.bool true)
      have hbg : base ≤ gr := (World.ownsRow.lt hrow gr rfl).1
      have hk5 := app_keepsT hrow (v := .slice (some ⟨gr, 0, none⟩) L.length cap) hg5
      have HB5 := hid (below_own (HB.out.mono Hb.out) hg5 hbg (Nat.le_trans Hb.out HB.out.size))
      have HR5 := hid (HR.out _ HB5.out)
      have RS5 := hid ((Below.rspares HB.out).trans (app_rspares hrow (v := .slice (some ⟨gr, 0, none⟩) L.length cap) hg5))
      have Tab5 := hid (hk5.blk Kq.out.tab (by decide))
      have It5 := hid (show ∀ x ∈ L, OwnBs (wq.setCell ⟨gr, j * 7 + 5, none⟩ (.bool true)) base 5 x.rv x.c.reply from fun x hx => hk5.row (Kq.out.it x hx) (by decide))
      have Hsz := hid HB.out.size
      have Hrow5 := hid hrow5
      have TabB := hid Kq.out.tabB
      have c6z : (wq.setCell ⟨gr, j * 7 + 5, none⟩ (.bool true)).cell? ⟨gr, j * 7 + 6, none⟩ = some rv := by
        rw [hrow5.cellAt (j * 7 + 6) (by omega), List.getElem?_set_ne (by omega), rCells_at L j 6 hlt (by decide), Hx.out]
        rfl
      have hsz5 : (wq.setCell ⟨gr, j * 7 + 5, none⟩ (.bool true)).heap.size = wq.heap.size := by simp
      have Hsz5 := hid hsz5
      have Hbg := hid hbg
      clear hrow hrow5 hg5 hk5 hsz5 hbg Kq HB c5q z5q c9q
      generalize wq.setCell ⟨gr, j * 7 + 5, none⟩ (.bool true) = wz at *
      have c9z := Tab5.out.cell 1
      have c9y := cell_below (below_alloc wz (.cells #[] 5)) c9z
      go_region_law (first
        | (refine step_app8 _ (by rfl) _ _ 34 (by rfl) wz.heap.size 5 u8ok (.slice (some ⟨wz.heap.size, 0, none⟩) 0 0) [] (by rfl) (by first | exact ownBs_litNil rfl (Nat.le_refl _) | exact (ownBs_litNil rfl (Nat.le_refl _)).drew) v r (by rfl) (by first | exact HR5.out.alloc _ | exact (HR5.out.alloc _).drew) (by have := Hrl.out; simp only [List.length_nil] at *; omega) (by simp) ?_; intro v8 w8 hown8 hb7 hg8; rw [List.nil_append] at hown8; have hb8 : Below wz.heap.size wz w8 := (by first | exact (below_alloc wz _).trans hb7 | exact ((below_alloc wz _).drew).trans hb7); obtain ⟨A8, c8, rfl⟩ := slice_len hown8.bs rfl; have c9b := cell_below hb8 c9z; have c6b := cell_below hb8 c6z; have z6b := (own_below Hrow5.out hb8).frozenAt (j * 7 + 6); have Hown8 := hid hown8; have Hb8 := hid hb8; clear hown8 hb7 hg8 hb8)
        | fail)
      all_goals
        go_wp2_with fail
        go_ret
        unfold REndPost
        rw [Hr.out]
        obtain ⟨hrow8, hg8⟩ := (own_below Hrow5.out Hb8.out).stored (j * 7 + 6) (.slice A8 r.length c8)
        have hk8 := app_keepsT (own_below Hrow5.out Hb8.out) (v := .slice (some ⟨gr, 0, none⟩) L.length cap) hg8
        have hB8 : Below base w w8 := HB5.out.trans (Hb8.out.mono (Nat.le_trans Hb.out HB5.out.size))
        have hfin : RefAt (w8.setCell ⟨gr, j * 7 + 6, none⟩ (.slice A8 r.length c8)) base gX n (L.set j ⟨⟨L[j].c.key, true, r⟩, .slice A8 r.length c8⟩) (.slice (some ⟨gr, 0, none⟩) L.length cap) := by
          refine ⟨hk8.blk (Tab5.out.keep Hb8.out) (by decide), TabB.out, ?_, fun x hx => ?_⟩
          · rw [List.length_set, rCells_set L j hlt]
            exact hrow8
          · rcases List.mem_or_eq_of_mem_set hx with hx | rfl
            · exact hk8.row ((It5.out x hx).below Hb8.out) (by decide)
            · exact hk8.row (Hown8.out.mono (Nat.le_trans Hb.out HB5.out.size)) (by decide)
        refine ⟨rfl, ⟨_, _, ?_, hfin, fun x hx => ?_⟩, below_own hB8 hg8 Hbg.out (Nat.le_trans Hb.out hB8.size), RS5.out.trans ((Below.rspares Hb8.out).trans (app_rspares (own_below Hrow5.out Hb8.out) (v := .slice (some ⟨gr, 0, none⟩) L.length cap) hg8))⟩
        · rw [List.map_set]
          congr 1
          simp only [DCall.mk.injEq, and_true]
          rw [Hx.out]
          exact Hd.out.1
        · rcases List.mem_or_eq_of_mem_set hx with hx | rfl
          · exact Hoff.out x hx
          · intro e
            have h1 := own_ge Hown8.out e
            have h2 := Hgm.out
            have h3 := HB5.out.size
            omega
    · have hd : (decide ((⟨a1, a2, a3, a4, a5⟩ : DKey) = (⟨k1, k2, k3, k4, k5⟩ : DKey)) && !done) = false := by
        have := HJ3.out j (by omega)
        rw [endAt_map hlt, Hx.out] at this
        exact this
      rw [hd]
      have hl := Hl.out
      go_wp2_with fail
      exact ⟨⟨j + 1, q + q1, by omega, val_int (by omega), by rw [Hwr.out]; simp [World.drewN, Nat.add_assoc]⟩, by simp [intOf]; omega⟩

theorem rend_at (base gX n gm : Nat) (l l' : List DCall) (k : DKey) (kv v : Value) (r : List UInt8) (code : Int) (w : World) (hkv : kv = k.val) (hr0 : drcEnd l k r = (l', code)) (h : RefOff w base gX n l gm) (hgm : gm < w.heap.size) (hb : base ≤ w.heap.size) (hl : l.length ≤ 100000) (hr : ∀ w', Below base w w' → Bs w' v r) (hrl : r.length ≤ 1099511627776) :
    Calls Try.prog 13 #[.pointer (some ⟨gX, 0, none⟩), kv, v] w fun e w' => e = .returned (.int .i64 code) ∧ RefOff w' base gX n l' gm ∧ Below base w w' ∧ RSpares w w' := by
  subst hkv
  have : Calls Try.prog 13 #[ptrV (some gX), k.val, v] w (REndPost base gX n gm l k r w) := by
    obtain ⟨L, vL, rfl, h, hoff⟩ := h
    rw [List.length_map] at hl
    have hrow := h.row
    rcases hrow.2 with ⟨rfl, h0⟩ | ⟨g, cap, cur, rfl, _⟩
    · obtain rfl := List.length_eq_zero_iff.1 h0
      exact rend_empty base gX n gm _ k v r w h hb
    · cases hd : fidx (endAt (L.map RIt.c) k) (L.map RIt.c).length with
      | none => exact rend_none base gX n gm g cap L k v r w h hoff hb hl hr hd
      | some J => exact rend_some base gX n gm g cap L k v r w h hoff hgm hb hl hr hrl J hd
  unfold REndPost at this
  rw [hr0] at this
  exact this
end Go.Proofs.Ytkgeccmpekclcaa
