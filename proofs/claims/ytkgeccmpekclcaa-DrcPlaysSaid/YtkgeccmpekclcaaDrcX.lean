/- The document's table's Begin: a full table in which no call is done. -/
import Derived.Test.YtkgeccmpekclcaaDrcW
import Derived.Deep.Cut
import Derived.Deep.CutRange
namespace Go.Proofs.Ytkgeccmpekclcaa
open Go Go.RowKit
attribute [local go_sem ↓] Go.wp_at_zero Go.wp_at_succ
set_option maxRecDepth 100000

theorem fidx_not {p : Nat → Bool} {n : Nat} (h : fidx p n = none) : ∀ j, j < n → p j = false := by
  induction n with
  | zero => intro j hj; omega
  | succ n ih =>
    unfold fidx at h
    cases e : fidx p n with
    | some j => rw [e] at h; cases h
    | none =>
      rw [e] at h
      simp only at h
      cases q : p n with
      | true => rw [q] at h; simp at h
      | false =>
        intro j hj
        by_cases hjn : j = n
        · subst hjn; exact q
        · exact ih e j (by omega)
theorem doneAt_map {L : List RIt} {j : Nat} (hj : j < L.length) : doneAt (L.map RIt.c) j = L[j].c.done := by simp [doneAt, hj]

set_option maxHeartbeats 4000000 in
theorem rbegin_stuck (base gX n : Nat) (l : List DCall) (k : DKey) (w : World) (h : RefInv w base gX n l) (hb : base ≤ w.heap.size) (hl : l.length ≤ 100000) (hn : l.length = n) (hd0 : fidx (doneAt l) l.length = none) (hc : l.find? (fun c => decide (c.key = k)) = none) :
    Calls Try.prog 10 #[ptrV (some gX), k.val] w (RBeginPost base gX n l k w) := by
  have Hr := hid (show drcBegin n l k = ((2, []), l) by unfold drcBegin; rw [hc]; simp only [hn, if_true]; rw [← hn, hd0])
  have Hnd := hid (fidx_not hd0)
  clear hd0
  obtain ⟨L, vL, rfl, h⟩ := h
  rw [List.length_map] at hl
  have HJn := hid (show ∀ y (hy : y < L.length), L[y].c.key ≠ k from fun y hy => by have := List.find?_eq_none.1 hc L[y].c (List.mem_map_of_mem (List.getElem_mem hy)); simpa using this)
  have Hb := hid hb
  have Hl := hid hl
  clear hc hb hl
  obtain ⟨k1, k2, k3, k4, k5⟩ := k
  dsimp only [DKey.val, DKey.cells]
  have K1 := hid (h.keep (below_alloc w (.cells #[.int .u32 (k1 : Int), .int .i64 k2, .int .u32 (k3 : Int), .int .u32 (k4 : Int), .int .u32 (k5 : Int)] 40)))
  have hkey : Blk (w.alloc (.cells #[.int .u32 (k1 : Int), .int .i64 k2, .int .u32 (k3 : Int), .int .u32 (k4 : Int), .int .u32 (k5 : Int)] 40)) w.heap.size 40 #[.int .u32 (k1 : Int), .int .i64 k2, .int .u32 (k3 : Int), .int .u32 (k4 : Int), .int .u32 (k5 : Int)].toList := Blk.new _ _ _
  have Hkey := hid hkey
  clear hkey h
  obtain ⟨_, A, cap, hv, q1, q2, hc⟩ := RowN.of_own K1.out.row
  subst hv
  have hc1 : (w.alloc (.cells #[.int .u32 (k1 : Int), .int .i64 k2, .int .u32 (k3 : Int), .int .u32 (k4 : Int), .int .u32 (k5 : Int)] 40)).cell? ⟨gX, 1, none⟩ = some (.slice A L.length cap) := K1.out.tab.cell 1
  have Hrow := hid hc
  have Hcap := hid q1
  have Hcap2 := hid q2
  clear hc q1 q2
  unfold ptrV
  go_enter Try.func10, Try.ntmps10
  go_wp2_with fail
  go_loopw [6] (fun i wr => ∃ (j q : Nat), j ≤ L.length ∧ i = .int .i64 (j : Int) ∧ wr = (w.alloc (.cells #[.int .u32 (k1 : Int), .int .i64 k2, .int .u32 (k3 : Int), .int .u32 (k4 : Int), .int .u32 (k5 : Int)] 40)).drewN q) (fun i _ => L.length - (intOf i).toNat)
  case atStart => exact ⟨0, 0, Nat.zero_le _, rfl, rfl⟩
  case round =>
    obtain ⟨j, q, hj, rfl, rfl⟩ := hrel
    by_cases hlt : j < L.length
    · have hltI : (j : Int) < (L.length : Int) := by omega
      obtain ⟨gr, off, rfl, hcell⟩ : ∃ gr off, A = some ⟨gr, off, none⟩ ∧ ∀ i x, (rCells L)[i]? = some x → (w.alloc (.cells #[.int .u32 (k1 : Int), .int .i64 k2, .int .u32 (k3 : Int), .int .u32 (k4 : Int), .int .u32 (k5 : Int)] 40)).cell? ⟨gr, off + i, none⟩ = some x := by
        rcases Hrow.out with h0 | h0
        · omega
        · exact h0
      have hcx := fun f (hf : f < 7) x (hx : L[j].cells[f]? = some x) => hcell (j * 7 + f) x ((rCells_at L j f hlt hf).trans hx)
      obtain ⟨⟨⟨⟨a1, a2, a3, a4, a5⟩, done, reply⟩, rv⟩, hx⟩ : ∃ x, L[j] = x := ⟨_, rfl⟩
      rw [hx] at hcx
      have Hx := hid hx
      obtain ⟨wr, hwr⟩ : ∃ wr, wr = (w.alloc (.cells #[.int .u32 (k1 : Int), .int .i64 k2, .int .u32 (k3 : Int), .int .u32 (k4 : Int), .int .u32 (k5 : Int)] 40)).drewN q := ⟨_, rfl⟩
      have Hwr := hid hwr
      have hcy : ∀ f (hf : f < 7) x, (callCells ⟨a1, a2, a3, a4, a5⟩ done rv)[f]? = some x → wr.cell? ⟨gr, off + (j * 7 + f), none⟩ = some x := by rw [hwr]; exact hcx
      have c0 : wr.cell? ⟨gr, off + j * 7, none⟩ = some (.int .u32 (a1 : Int)) := (by rw [← Nat.add_zero (j * 7)]; exact hcy 0 (by decide) _ rfl)
      have c1 : wr.cell? ⟨gr, off + j * 7 + 1, none⟩ = some (.int .i64 a2) := (by rw [Nat.add_assoc]; exact hcy 1 (by decide) _ rfl)
      have c2 : wr.cell? ⟨gr, off + j * 7 + 2, none⟩ = some (.int .u32 (a3 : Int)) := (by rw [Nat.add_assoc]; exact hcy 2 (by decide) _ rfl)
      have c3 : wr.cell? ⟨gr, off + j * 7 + 3, none⟩ = some (.int .u32 (a4 : Int)) := (by rw [Nat.add_assoc]; exact hcy 3 (by decide) _ rfl)
      have c4 : wr.cell? ⟨gr, off + j * 7 + 4, none⟩ = some (.int .u32 (a5 : Int)) := (by rw [Nat.add_assoc]; exact hcy 4 (by decide) _ rfl)
      have c5 : wr.cell? ⟨gr, off + j * 7 + 5, none⟩ = some (.bool done) := (by rw [Nat.add_assoc]; exact hcy 5 (by decide) _ rfl)
      have c6 : wr.cell? ⟨gr, off + j * 7 + 6, none⟩ = some rv := (by rw [Nat.add_assoc]; exact hcy 6 (by decide) _ rfl)
      have hk : Blk wr w.heap.size 40 #[.int .u32 (k1 : Int), .int .i64 k2, .int .u32 (k3 : Int), .int .u32 (k4 : Int), .int .u32 (k5 : Int)].toList := by rw [hwr]; exact Hkey.out.drewN q
      have d0 := hk.cell 0
      have d1 := hk.cell 1
      have d2 := hk.cell 2
      have d3 := hk.cell 3
      have d4 := hk.cell 4
      have c9 : wr.cell? ⟨gX, 1, none⟩ = some (.slice (some ⟨gr, off, none⟩) L.length cap) := by rw [hwr]; exact hc1
      rw [← hwr]
      clear hwr hcx hcell hk hcy
      go_wp2_with fail
      go_cut [27] from 18 to 27 (fun t wx => (∃ q', wx = wr.drewN q') ∧ t = .bool (decide ((⟨a1, a2, a3, a4, a5⟩ : DKey) = (⟨k1, k2, k3, k4, k5⟩ : DKey))))
      case first =>
        (by_cases e1 : a1 = k1); (case neg => (have f1 : decide ((a1 : Int) = (k1 : Int)) = false := decide_eq_false (by omega)); (have f2 : ((a1 : Int) == (k1 : Int)) = false := by simp; omega); (have f3 : ¬ (a1 : Int) = (k1 : Int) := by omega); (have He := hid (show decide ((⟨a1, a2, a3, a4, a5⟩ : DKey) = (⟨k1, k2, k3, k4, k5⟩ : DKey)) = false from decide_eq_false (fun e => e1 (by injection e)))); clear e1; (go_quiet (fail)); go_wp2; go_meet; (case rel => exact ⟨⟨_, rfl⟩, by rw [He.out]⟩)); subst a1; (by_cases e2 : a2 = k2); (case neg => (have f1 : decide (a2 = k2) = false := decide_eq_false (by omega)); (have f2 : (a2 == k2) = false := by simp; omega); (have f3 : ¬ a2 = k2 := by omega); (have He := hid (show decide ((⟨k1, a2, a3, a4, a5⟩ : DKey) = (⟨k1, k2, k3, k4, k5⟩ : DKey)) = false from decide_eq_false (fun e => e2 (by injection e)))); clear e2; (go_quiet (fail)); go_wp2; go_meet; (case rel => exact ⟨⟨_, rfl⟩, by rw [He.out]⟩)); subst a2; (by_cases e3 : a3 = k3); (case neg => (have f1 : decide ((a3 : Int) = (k3 : Int)) = false := decide_eq_false (by omega)); (have f2 : ((a3 : Int) == (k3 : Int)) = false := by simp; omega); (have f3 : ¬ (a3 : Int) = (k3 : Int) := by omega); (have He := hid (show decide ((⟨k1, k2, a3, a4, a5⟩ : DKey) = (⟨k1, k2, k3, k4, k5⟩ : DKey)) = false from decide_eq_false (fun e => e3 (by injection e)))); clear e3; (go_quiet (fail)); go_wp2; go_meet; (case rel => exact ⟨⟨_, rfl⟩, by rw [He.out]⟩)); subst a3; (by_cases e4 : a4 = k4); (case neg => (have f1 : decide ((a4 : Int) = (k4 : Int)) = false := decide_eq_false (by omega)); (have f2 : ((a4 : Int) == (k4 : Int)) = false := by simp; omega); (have f3 : ¬ (a4 : Int) = (k4 : Int) := by omega); (have He := hid (show decide ((⟨k1, k2, k3, a4, a5⟩ : DKey) = (⟨k1, k2, k3, k4, k5⟩ : DKey)) = false from decide_eq_false (fun e => e4 (by injection e)))); clear e4; (go_quiet (fail)); go_wp2; go_meet; (case rel => exact ⟨⟨_, rfl⟩, by rw [He.out]⟩)); subst a4; (by_cases e5 : a5 = k5); (case neg => (have f1 : decide ((a5 : Int) = (k5 : Int)) = false := decide_eq_false (by omega)); (have f2 : ((a5 : Int) == (k5 : Int)) = false := by simp; omega); (have f3 : ¬ (a5 : Int) = (k5 : Int) := by omega); (have He := hid (show decide ((⟨k1, k2, k3, k4, a5⟩ : DKey) = (⟨k1, k2, k3, k4, k5⟩ : DKey)) = false from decide_eq_false (fun e => e5 (by injection e)))); clear e5; (go_quiet (fail)); go_wp2; go_meet; (case rel => exact ⟨⟨_, rfl⟩, by rw [He.out]⟩)); subst a5; (go_quiet (fail)); go_wp2; go_meet; (case rel => exact ⟨⟨_, rfl⟩, by simp⟩)
      case rest =>
      obtain ⟨⟨q1, rfl⟩, rfl⟩ := hcut
      have hd : decide ((⟨a1, a2, a3, a4, a5⟩ : DKey) = (⟨k1, k2, k3, k4, k5⟩ : DKey)) = false := decide_eq_false (fun e => HJn.out j hlt (by rw [hx]; exact e))
      rw [hd]
      have hl := Hl.out
      go_wp2_with fail
      exact ⟨⟨j + 1, q + q1, by omega, val_int (by omega), by rw [Hwr.out]; simp [World.drewN, Nat.add_assoc]⟩, by simp [intOf]; omega⟩
    have hjL : j = L.length := by omega
    subst hjL
    have hltI : ¬ (L.length : Int) < (L.length : Int) := by omega
    have Kr := hid (show RefAt ((w.alloc (.cells #[.int .u32 (k1 : Int), .int .i64 k2, .int .u32 (k3 : Int), .int .u32 (k4 : Int), .int .u32 (k5 : Int)] 40)).drewN q) base gX n L (.slice A L.length cap) from K1.out.keep (below_drewN (Below.refl _ _) q))
    have HBr := hid (show Below w.heap.size w ((w.alloc (.cells #[.int .u32 (k1 : Int), .int .i64 k2, .int .u32 (k3 : Int), .int .u32 (k4 : Int), .int .u32 (k5 : Int)] 40)).drewN q) from below_drewN (below_alloc w _) q)
    have Hkr := hid (show Blk ((w.alloc (.cells #[.int .u32 (k1 : Int), .int .i64 k2, .int .u32 (k3 : Int), .int .u32 (k4 : Int), .int .u32 (k5 : Int)] 40)).drewN q) w.heap.size 40 #[.int .u32 (k1 : Int), .int .i64 k2, .int .u32 (k3 : Int), .int .u32 (k4 : Int), .int .u32 (k5 : Int)].toList from Hkey.out.drewN q)
    have Hcell := hid (show L.length = 0 ∨ ∃ gr off, A = some ⟨gr, off, none⟩ ∧ ∀ i x, (rCells L)[i]? = some x → ((w.alloc (.cells #[.int .u32 (k1 : Int), .int .i64 k2, .int .u32 (k3 : Int), .int .u32 (k4 : Int), .int .u32 (k5 : Int)] 40)).drewN q).cell? ⟨gr, off + i, none⟩ = some x from Hrow.out)
    clear hlt hj K1 Hkey Hrow hc1
    generalize (w.alloc (.cells #[.int .u32 (k1 : Int), .int .i64 k2, .int .u32 (k3 : Int), .int .u32 (k4 : Int), .int .u32 (k5 : Int)] 40)).drewN q = wr at Kr HBr Hkr Hcell ⊢
    have c0 := Kr.out.tab.cell 0
    have c1 := Kr.out.tab.cell 1
    go_wp2_with fail
    rw [List.length_map] at hn
    subst hn
    have hnI : (L.length : Int) ≤ (L.length : Int) := by omega
    go_quiet (fail)
    have Kq := hid (Kr.out.keep (below_drewN (Below.refl _ _) nq))
    have HBq := hid (below_drewN HBr.out nq)
    have Hkq := hid (Hkr.out.drewN nq)
    have Hcq := hid (show L.length = 0 ∨ ∃ gr off, A = some ⟨gr, off, none⟩ ∧ ∀ i x, (rCells L)[i]? = some x → (wr.drewN nq).cell? ⟨gr, off + i, none⟩ = some x from Hcell.out)
    clear Kr HBr Hkr Hcell c0 c1
    generalize wr.drewN nq = wq at *
    have c1 := Kq.out.tab.cell 1
    go_wp2_with fail
    go_loopw [7] (fun i wr => ∃ j : Nat, j ≤ L.length ∧ i = .int .i64 (j : Int) ∧ wr = wq) (fun i _ => L.length - (intOf i).toNat)
    case atStart => exact ⟨0, Nat.zero_le _, rfl, rfl⟩
    case round =>
      obtain ⟨j, hj, rfl, rfl⟩ := hrel
      by_cases hlt : j < L.length
      · have hltJ : (j : Int) < (L.length : Int) := by omega
        obtain ⟨gr, off, rfl, hcell⟩ : ∃ gr off, A = some ⟨gr, off, none⟩ ∧ ∀ i x, (rCells L)[i]? = some x → wr.cell? ⟨gr, off + i, none⟩ = some x := by
          rcases Hcq.out with h0 | h0
          · omega
          · exact h0
        have c5 : wr.cell? ⟨gr, off + j * 7 + 5, none⟩ = some (.bool L[j].c.done) := (by rw [Nat.add_assoc]; exact hcell (j * 7 + 5) _ ((rCells_at L j 5 hlt (by decide)).trans rfl))
        have hdj : L[j].c.done = false := by rw [← doneAt_map hlt]; exact Hnd.out j (by rw [List.length_map]; exact hlt)
        rw [hdj] at c5
        have hl := Hl.out
        go_wp2_with fail
        exact ⟨⟨j + 1, by omega, val_int (by omega), trivial⟩, by simp [intOf]; omega⟩
      · have hjL : j = L.length := by omega
        subst hjL
        go_wp2_with fail
        go_ret2
        unfold RBeginPost
        rw [Hr.out]
        exact ⟨_, rfl, OwnBs.nil _ _ _, ⟨L, _, rfl, Kq.out⟩, HBq.out.mono Hb.out, Below.rspares HBq.out, .inl rfl⟩
end Go.Proofs.Ytkgeccmpekclcaa
