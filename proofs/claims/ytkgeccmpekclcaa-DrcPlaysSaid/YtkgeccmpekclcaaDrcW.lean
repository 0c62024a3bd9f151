/- The document's table's Begin: a new call where there is room; a full table in which no call is done. -/
import Derived.Test.YtkgeccmpekclcaaDrcV
import Derived.Deep.Cut
import Derived.Deep.CutRange
namespace Go.Proofs.Ytkgeccmpekclcaa
open Go Go.RowKit
attribute [local go_sem ↓] Go.wp_at_zero Go.wp_at_succ
set_option maxRecDepth 100000

theorem knowninfo : (Try.prog.info? 50).map (fun i => (i.zero, i.size, i.bytes)) = some (some (.agg #[.int .u32 0, .int .i64 0, .int .u32 0, .int .u32 0, .int .u32 0, .bool false, .slice none 0 0]), 7, 64) := by kernel_rfl
theorem knownok : ElemOk Try.prog 46 50 (.agg #[.int .u32 0, .int .i64 0, .int .u32 0, .int .u32 0, .int .u32 0, .bool false, .slice none 0 0]) 7 64 := by
  obtain ⟨i, hi, hz, hs, hb⟩ := info_parts knowninfo
  exact ⟨Try.underlying46, ⟨i, hi, hz, hs, hb⟩, rfl, by decide, by decide⟩

theorem grown_undrew {w w' : World} {r : Option Nat} (h : w.drew.grownBy w' r) : w.grownBy w' r := by
  obtain ⟨a, b, c, d, e⟩ := h
  exact ⟨a, b, c, d, e⟩
theorem grown_rspares {w w' : World} {r : Option Nat} (h : w.grownBy w' r) (ht : ∀ g, r = some g → ∃ cs t mk, w.heap[g]? = some (.cells cs t mk) ∧ (t = 48 ∨ t = 50)) : RSpares w w' := by
  obtain ⟨a, b, c, d, e⟩ := h
  refine ⟨a, b, c, d, fun k o hk ho => (e k (Array.getElem?_eq_some_iff.1 hk).1 ?_).trans hk⟩
  intro q
  obtain ⟨cs, t, mk, h1, h2⟩ := ht k q.symm
  rw [hk] at h1
  injection h1 with h1
  obtain ⟨h3, h4⟩ := ho cs t mk h1
  rcases h2 with h2 | h2
  · exact h3 h2
  · exact h4 h2
theorem app_rspares {w w' : World} {base size n : Nat} {v : Value} {xs : List Value} (ho : w.ownsRow base 50 size v n xs) (h : w.grownBy w' v.ownBlock) : RSpares w w' := by
  refine grown_rspares h fun g hg => ?_
  rcases ho.2 with ⟨rfl, _⟩ | ⟨g2, cap, cur, rfl, _, hh, _⟩
  · simp [Value.ownBlock] at hg
  · simp only [Value.ownBlock, Option.some.injEq] at hg
    subst hg
    exact ⟨_, _, _, hh, .inr rfl⟩
theorem tab_rspares {w w' : World} {g : Nat} {xs : List Value} (hb : Blk w g 48 xs) (h : w.grownBy w' (some g)) : RSpares w w' := by
  refine grown_rspares h fun g' hg => ?_
  injection hg with hg
  subst hg
  exact ⟨_, _, _, hb, .inl rfl⟩

theorem RefAt.push {w w9 : World} {base gX n : Nat} {L : List RIt} {vL v9 : Value} {k : DKey} {C : List Value} (h : RefAt w base gX n L vL) (hk : KeepsT w w9 (· ≠ 50)) (hC : C = callCells k false (.slice none 0 0))
    (hown : w9.ownsRow base 50 7 v9 (L.length + 1) (rCells L ++ C)) :
    RefAt (w9.setCell ⟨gX, 1, none⟩ v9) base gX n (L ++ [⟨⟨k, false, []⟩, .slice none 0 0⟩]) v9 := by
  subst hC
  have htab := hk.blk h.tab (by decide)
  have hg := grown_set w9 gX 1 v9
  have hk2 := store_keepsT hg htab
  refine ⟨htab.set_ 1 v9, h.tabB, ?_, fun x hx => ?_⟩
  · rw [List.length_append, rCells_append]
    exact own_store hown htab (by decide) hg
  · rcases List.mem_append.1 hx with hx | hx
    · exact hk2.row (hk.row (h.it x hx) (by decide)) (by decide)
    · obtain rfl : x = _ := by simpa using hx
      exact OwnBs.nil _ _ _

set_option maxHeartbeats 4000000 in
theorem rbegin_room (base gX n : Nat) (l : List DCall) (k : DKey) (w : World) (h : RefInv w base gX n l) (hb : base ≤ w.heap.size) (hl : l.length ≤ 100000) (hn : l.length < n) (hc : l.find? (fun c => decide (c.key = k)) = none) :
    Calls Try.prog 10 #[ptrV (some gX), k.val] w (RBeginPost base gX n l k w) := by
  have Hr := hid (show drcBegin n l k = ((1, []), l ++ [⟨k, false, []⟩]) by unfold drcBegin; rw [hc]; simp only [if_neg (Nat.ne_of_lt hn)])
  obtain ⟨L, vL, rfl, h⟩ := h
  rw [List.length_map] at hl
  have HJn := hid (show ∀ y (hy : y < L.length), L[y].c.key ≠ k from fun y hy => by have := List.find?_eq_none.1 hc L[y].c (List.mem_map_of_mem (List.getElem_mem hy)); simpa using this)
  have Hb := hid hb
  have Hl := hid hl
  clear hc hb hl
  obtain ⟨k1, k2, k3, k4, k5⟩ := k
  dsimp only [DKey.val, DKey.cells]
  have K1 := hid (h.keep (below_alloc w (.cells #[.int .u32 (k1 : Int), .int .i64 k2, .int .u32 (k3 : Int), .int .u32 (k4 : Int), .int .u32 (k5 : Int)] 40)))
  have hkey : Blk (w.alloc (.cells #[.int .u32 (k1 : Int), .int .i64 k2, .int .u32 (k3 : Int), .int .u32 (k4 : Int), .int .u32 (k5 : Int)] 40)) w.heap.size 40 #[.int .u32 (k1 : Int), .int .i64 k2, .int .u32 (k3 : Int), .int .u32 (k4 : Int), .int .u32 (k5 : Int)].toList := Blk.new _ _ _
  have Hkey := hid hkey
  clear hkey h
  obtain ⟨_, A, cap, hv, q1, q2, hc⟩ := RowN.of_own K1.out.row
  subst hv
  have hc1 : (w.alloc (.cells #[.int .u32 (k1 : Int), .int .i64 k2, .int .u32 (k3 : Int), .int .u32 (k4 : Int), .int .u32 (k5 : Int)] 40)).cell? ⟨gX, 1, none⟩ = some (.slice A L.length cap) := K1.out.tab.cell 1
  have Hrow := hid hc
  have Hcap := hid q1
  have Hcap2 := hid q2
  clear hc q1 q2
  unfold ptrV
  go_enter Try.func10, Try.ntmps10
  go_wp2_with fail
  go_loopw [6] (fun i wr => ∃ (j q : Nat), j ≤ L.length ∧ i = .int .i64 (j : Int) ∧ wr = (w.alloc (.cells #[.int .u32 (k1 : Int), .int .i64 k2, .int .u32 (k3 : Int), .int .u32 (k4 : Int), .int .u32 (k5 : Int)] 40)).drewN q) (fun i _ => L.length - (intOf i).toNat)
  case atStart => exact ⟨0, 0, Nat.zero_le _, rfl, rfl⟩
  case round =>
    obtain ⟨j, q, hj, rfl, rfl⟩ := hrel
    by_cases hlt : j < L.length
    · have hltI : (j : Int) < (L.length : Int) := by omega
      obtain ⟨gr, off, rfl, hcell⟩ : ∃ gr off, A = some ⟨gr, off, none⟩ ∧ ∀ i x, (rCells L)[i]? = some x → (w.alloc (.cells #[.int .u32 (k1 : Int), .int .i64 k2, .int .u32 (k3 : Int), .int .u32 (k4 : Int), .int .u32 (k5 : Int)] 40)).cell? ⟨gr, off + i, none⟩ = some x := by
        rcases Hrow.out with h0 | h0
        · omega
        · exact h0
      have hcx := fun f (hf : f < 7) x (hx : L[j].cells[f]? = some x) => hcell (j * 7 + f) x ((rCells_at L j f hlt hf).trans hx)
      obtain ⟨⟨⟨⟨a1, a2, a3, a4, a5⟩, done, reply⟩, rv⟩, hx⟩ : ∃ x, L[j] = x := ⟨_, rfl⟩
      rw [hx] at hcx
      have Hx := hid hx
      obtain ⟨wr, hwr⟩ : ∃ wr, wr = (w.alloc (.cells #[.int .u32 (k1 : Int), .int .i64 k2, .int .u32 (k3 : Int), .int .u32 (k4 : Int), .int .u32 (k5 : Int)] 40)).drewN q := ⟨_, rfl⟩
      have Hwr := hid hwr
      have hcy : ∀ f (hf : f < 7) x, (callCells ⟨a1, a2, a3, a4, a5⟩ done rv)[f]? = some x → wr.cell? ⟨gr, off + (j * 7 + f), none⟩ = some x := by rw [hwr]; exact hcx
      have c0 : wr.cell? ⟨gr, off + j * 7, none⟩ = some (.int .u32 (a1 : Int)) := (by rw [← Nat.add_zero (j * 7)]; exact hcy 0 (by decide) _ rfl)
      have c1 : wr.cell? ⟨gr, off + j * 7 + 1, none⟩ = some (.int .i64 a2) := (by rw [Nat.add_assoc]; exact hcy 1 (by decide) _ rfl)
      have c2 : wr.cell? ⟨gr, off + j * 7 + 2, none⟩ = some (.int .u32 (a3 : Int)) := (by rw [Nat.add_assoc]; exact hcy 2 (by decide) _ rfl)
      have c3 : wr.cell? ⟨gr, off + j * 7 + 3, none⟩ = some (.int .u32 (a4 : Int)) := (by rw [Nat.add_assoc]; exact hcy 3 (by decide) _ rfl)
      have c4 : wr.cell? ⟨gr, off + j * 7 + 4, none⟩ = some (.int .u32 (a5 : Int)) := (by rw [Nat.add_assoc]; exact hcy 4 (by decide) _ rfl)
      have c5 : wr.cell? ⟨gr, off + j * 7 + 5, none⟩ = some (.bool done) := (by rw [Nat.add_assoc]; exact hcy 5 (by decide) _ rfl)
      have c6 : wr.cell? ⟨gr, off + j * 7 + 6, none⟩ = some rv := (by rw [Nat.add_assoc]; exact hcy 6 (by decide) _ rfl)
      have hk : Blk wr w.heap.size 40 #[.int .u32 (k1 : Int), .int .i64 k2, .int .u32 (k3 : Int), .int .u32 (k4 : Int), .int .u32 (k5 : Int)].toList := by rw [hwr]; exact Hkey.out.drewN q
      have d0 := hk.cell 0
      have d1 := hk.cell 1
      have d2 := hk.cell 2
      have d3 := hk.cell 3
      have d4 := hk.cell 4
      have c9 : wr.cell? ⟨gX, 1, none⟩ = some (.slice (some ⟨gr, off, none⟩) L.length cap) := by rw [hwr]; exact hc1
      rw [← hwr]
      clear hwr hcx hcell hk hcy
      go_wp2_with fail
      go_cut [27] from 18 to 27 (fun t wx => (∃ q', wx = wr.drewN q') ∧ t = .bool (decide ((⟨a1, a2, a3, a4, a5⟩ : DKey) = (⟨k1, k2, k3, k4, k5⟩ : DKey))))
      case first =>
        (by_cases e1 : a1 = k1); (case neg => (have f1 : decide ((a1 : Int) = (k1 : Int)) = false := decide_eq_false (by omega)); (have f2 : ((a1 : Int) == (k1 : Int)) = false := by simp; omega); (have f3 : ¬ (a1 : Int) = (k1 : Int) := by omega); (have He := hid (show decide ((⟨a1, a2, a3, a4, a5⟩ : DKey) = (⟨k1, k2, k3, k4, k5⟩ : DKey)) = false from decide_eq_false (fun e => e1 (by injection e)))); clear e1; (go_quiet (fail)); go_wp2; go_meet; (case rel => exact ⟨⟨_, rfl⟩, by rw [He.out]⟩)); subst a1; (by_cases e2 : a2 = k2); (case neg => (have f1 : decide (a2 = k2) = false := decide_eq_false (by omega)); (have f2 : (a2 == k2) = false := by simp; omega); (have f3 : ¬ a2 = k2 := by omega); (have He := hid (show decide ((⟨k1, a2, a3, a4, a5⟩ : DKey) = (⟨k1, k2, k3, k4, k5⟩ : DKey)) = false from decide_eq_false (fun e => e2 (by injection e)))); clear e2; (go_quiet (fail)); go_wp2; go_meet; (case rel => exact ⟨⟨_, rfl⟩, by rw [He.out]⟩)); subst a2; (by_cases e3 : a3 = k3); (case neg => (have f1 : decide ((a3 : Int) = (k3 : Int)) = false := decide_eq_false (by omega)); (have f2 : ((a3 : Int) == (k3 : Int)) = false := by simp; omega); (have f3 : ¬ (a3 : Int) = (k3 : Int) := by omega); (have He := hid (show decide ((⟨k1, k2, a3, a4, a5⟩ : DKey) = (⟨k1, k2, k3, k4, k5⟩ : DKey)) = false from decide_eq_false (fun e => e3 (by injection e)))); clear e3; (go_quiet (fail)); go_wp2; go_meet; (case rel => exact ⟨⟨_, rfl⟩, by rw [He.out]⟩)); subst a3; (by_cases e4 : a4 = k4); (case neg => (have f1 : decide ((a4 : Int) = (k4 : Int)) = false := decide_eq_false (by omega)); (have f2 : ((a4 : Int) == (k4 : Int)) = false := by simp; omega); (have f3 : ¬ (a4 : Int) = (k4 : Int) := by omega); (have He := hid (show decide ((⟨k1, k2, k3, a4, a5⟩ : DKey) = (⟨k1, k2, k3, k4, k5⟩ : DKey)) = false from decide_eq_false (fun e => e4 (by injection e)))); clear e4; (go_quiet (fail)); go_wp2; go_meet; (case rel => exact ⟨⟨_, rfl⟩, by rw [He.out]⟩)); subst a4; (by_cases e5 : a5 = k5); (case neg => (have f1 : decide ((a5 : Int) = (k5 : Int)) = false := decide_eq_false (by omega)); (have f2 : ((a5 : Int) == (k5 : Int)) = false := by simp; omega); (have f3 : ¬ (a5 : Int) = (k5 : Int) := by omega); (have He := hid (show decide ((⟨k1, k2, k3, k4, a5⟩ : DKey) = (⟨k1, k2, k3, k4, k5⟩ : DKey)) = false from decide_eq_false (fun e => e5 (by injection e)))); clear e5; (go_quiet (fail)); go_wp2; go_meet; (case rel => exact ⟨⟨_, rfl⟩, by rw [He.out]⟩)); subst a5; (go_quiet (fail)); go_wp2; go_meet; (case rel => exact ⟨⟨_, rfl⟩, by simp⟩)
      case rest =>
      obtain ⟨⟨q1, rfl⟩, rfl⟩ := hcut
      have hd : decide ((⟨a1, a2, a3, a4, a5⟩ : DKey) = (⟨k1, k2, k3, k4, k5⟩ : DKey)) = false := decide_eq_false (fun e => HJn.out j hlt (by rw [hx]; exact e))
      rw [hd]
      have hl := Hl.out
      go_wp2_with fail
      exact ⟨⟨j + 1, q + q1, by omega, val_int (by omega), by rw [Hwr.out]; simp [World.drewN, Nat.add_assoc]⟩, by simp [intOf]; omega⟩
    have hjL : j = L.length := by omega
    subst hjL
    have hltI : ¬ (L.length : Int) < (L.length : Int) := by omega
    have Kr := hid (show RefAt ((w.alloc (.cells #[.int .u32 (k1 : Int), .int .i64 k2, .int .u32 (k3 : Int), .int .u32 (k4 : Int), .int .u32 (k5 : Int)] 40)).drewN q) base gX n L (.slice A L.length cap) from K1.out.keep (below_drewN (Below.refl _ _) q))
    have HBr := hid (show Below w.heap.size w ((w.alloc (.cells #[.int .u32 (k1 : Int), .int .i64 k2, .int .u32 (k3 : Int), .int .u32 (k4 : Int), .int .u32 (k5 : Int)] 40)).drewN q) from below_drewN (below_alloc w _) q)
    have Hkr := hid (show Blk ((w.alloc (.cells #[.int .u32 (k1 : Int), .int .i64 k2, .int .u32 (k3 : Int), .int .u32 (k4 : Int), .int .u32 (k5 : Int)] 40)).drewN q) w.heap.size 40 #[.int .u32 (k1 : Int), .int .i64 k2, .int .u32 (k3 : Int), .int .u32 (k4 : Int), .int .u32 (k5 : Int)].toList from Hkey.out.drewN q)
    have Hcell := hid (show L.length = 0 ∨ ∃ gr off, A = some ⟨gr, off, none⟩ ∧ ∀ i x, (rCells L)[i]? = some x → ((w.alloc (.cells #[.int .u32 (k1 : Int), .int .i64 k2, .int .u32 (k3 : Int), .int .u32 (k4 : Int), .int .u32 (k5 : Int)] 40)).drewN q).cell? ⟨gr, off + i, none⟩ = some x from Hrow.out)
    clear hlt hj K1 Hkey Hrow hc1
    generalize (w.alloc (.cells #[.int .u32 (k1 : Int), .int .i64 k2, .int .u32 (k3 : Int), .int .u32 (k4 : Int), .int .u32 (k5 : Int)] 40)).drewN q = wr at Kr HBr Hkr Hcell ⊢
    have c0 := Kr.out.tab.cell 0
    have c1 := Kr.out.tab.cell 1
    go_wp2_with fail
    rw [List.length_map] at hn
    have hnI : ¬ (n : Int) ≤ (L.length : Int) := by omega
    go_quiet (fail)
    have Kq := hid (Kr.out.keep (below_drewN (Below.refl _ _) nq))
    have HBq := hid (below_drewN HBr.out nq)
    have Hkq := hid (Hkr.out.drewN nq)
    clear Kr HBr Hkr Hcell c0 c1
    generalize wr.drewN nq = wq at *
    have c0 := Kq.out.tab.cell 0
    have c1 := Kq.out.tab.cell 1
    have d0 := Hkq.out.cell 0
    have d1 := Hkq.out.cell 1
    have d2 := Hkq.out.cell 2
    have d3 := Hkq.out.cell 3
    have d4 := Hkq.out.cell 4
    go_wp2_with fail
    have c1a := cell_below (below_alloc wq (.cells #[.int .u32 (k1 : Int), .int .i64 k2, .int .u32 (k3 : Int), .int .u32 (k4 : Int), .int .u32 (k5 : Int), .bool false, .slice none 0 0] 50)) c1
    go_region_law (first
      | (refine step_appG _ (by rfl) _ _ 46 (by rfl) base 50 (.agg #[.int .u32 0, .int .i64 0, .int .u32 0, .int .u32 0, .int .u32 0, .bool false, .slice none 0 0]) 7 64 knownok (.slice A L.length cap) L.length (rCells L) (by rfl) (by first | exact Kq.out.row.alloc _ | exact (Kq.out.row.alloc _).drew | exact Kq.out.row.drew.alloc _) (.slice (some ⟨wq.heap.size, 0, none⟩) 1 1) 1 #[.int .u32 (k1 : Int), .int .i64 k2, .int .u32 (k3 : Int), .int .u32 (k4 : Int), .int .u32 (k5 : Int), .bool false, .slice none 0 0].toList (by rfl) (by first | exact rowS_lit 7 #[.int .u32 (k1 : Int), .int .i64 k2, .int .u32 (k3 : Int), .int .u32 (k4 : Int), .int .u32 (k5 : Int), .bool false, .slice none 0 0] 1 _ rfl (by simp) (by simp [maxLen]) | exact (rowS_lit 7 #[.int .u32 (k1 : Int), .int .i64 k2, .int .u32 (k3 : Int), .int .u32 (k4 : Int), .int .u32 (k5 : Int), .bool false, .slice none 0 0] 1 _ rfl (by simp) (by simp [maxLen])).drew) (by simp [Value.oneCell']) (by have := Hl.out; omega) (by have := Hl.out; simp only [maxLen]; omega) (by have := HBq.out.size; have := Hb.out; simp; omega) ?_; intro v9 w9 hown9 hg8; have hg9 : (wq.alloc (.cells #[.int .u32 (k1 : Int), .int .i64 k2, .int .u32 (k3 : Int), .int .u32 (k4 : Int), .int .u32 (k5 : Int), .bool false, .slice none 0 0] 50)).grownBy w9 (Value.slice A L.length cap).ownBlock := (by first | exact hg8 | exact grown_undrew hg8); clear hg8; obtain ⟨_, A9, c9, rfl, _, _, _⟩ := RowN.of_own hown9; have tab9 := (app_keepsT (Kq.out.row.alloc (.cells #[.int .u32 (k1 : Int), .int .i64 k2, .int .u32 (k3 : Int), .int .u32 (k4 : Int), .int .u32 (k5 : Int), .bool false, .slice none 0 0] 50)) hg9).blk (Kq.out.tab.alloc _) (by decide); have c1b := tab9.cell 1; have z1b := tab9.frozen 1; have Hown9 := hid hown9; have Hg9 := hid hg9; clear hown9 hg9 tab9)
      | fail)
    all_goals
      go_wp2_with fail
      go_ret2
      unfold RBeginPost
      rw [Hr.out]
      have hgt := grown_set w9 gX 1 (.slice A9 (L.length + 1) c9)
      have hkeep : KeepsT wq w9 (· ≠ 50) := (Below.keepsT (below_alloc wq (.cells #[.int .u32 (k1 : Int), .int .i64 k2, .int .u32 (k3 : Int), .int .u32 (k4 : Int), .int .u32 (k5 : Int), .bool false, .slice none 0 0] 50)) _).trans (app_keepsT (Kq.out.row.alloc _) Hg9.out)
      have htab := hkeep.blk Kq.out.tab (by decide)
      have hB9 : Below base w w9 := (((HBq.out.mono Hb.out).trans ((below_alloc wq (.cells #[.int .u32 (k1 : Int), .int .i64 k2, .int .u32 (k3 : Int), .int .u32 (k4 : Int), .int .u32 (k5 : Int), .bool false, .slice none 0 0] 50)).mono (Nat.le_trans Hb.out HBq.out.size))).grown Hg9.out (by have := HBq.out.size; have := Hb.out; simp; omega) (fun k hk => (World.ownsRow.lt Kq.out.row k hk).1))
      refine ⟨_, rfl, OwnBs.nil _ _ _, ⟨_, _, ?_, Kq.out.push (k := (⟨k1, k2, k3, k4, k5⟩ : DKey)) hkeep rfl Hown9.out⟩, below_own hB9 hgt Kq.out.tabB (Nat.le_trans Hb.out hB9.size), ?_, .inl rfl⟩
      · rw [List.map_append]; rfl
      · exact (Below.rspares HBq.out).trans ((Below.rspares (below_alloc wq (.cells #[.int .u32 (k1 : Int), .int .i64 k2, .int .u32 (k3 : Int), .int .u32 (k4 : Int), .int .u32 (k5 : Int), .bool false, .slice none 0 0] 50))).trans ((app_rspares (Kq.out.row.alloc _) Hg9.out).trans (tab_rspares htab hgt)))
end Go.Proofs.Ytkgeccmpekclcaa
