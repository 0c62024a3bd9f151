/- The document's table's Begin: a full table lets the first call go that is done. -/
import Derived.Test.YtkgeccmpekclcaaDrcX
import Derived.Deep.Cut
import Derived.Deep.CutRange
namespace Go.Proofs.Ytkgeccmpekclcaa
open Go Go.RowKit
attribute [local go_sem ↓] Go.wp_at_zero Go.wp_at_succ
set_option maxRecDepth 100000

theorem fidx_first {p : Nat → Bool} {n i : Nat} (h : fidx p n = some i) : i < n ∧ p i = true ∧ ∀ j, j < i → p j = false := by
  induction n with
  | zero => cases h
  | succ n ih =>
    unfold fidx at h
    cases e : fidx p n with
    | some j =>
      rw [e] at h
      injection h with h
      subst h
      obtain ⟨h1, h2⟩ := ih e
      exact ⟨by omega, h2⟩
    | none =>
      rw [e] at h
      simp only at h
      split at h
      · injection h with h
        subst h
        exact ⟨by omega, by assumption, fun j hj => fidx_not e j hj⟩
      · cases h
theorem own_one {w : World} {base size n : Nat} {e : TypeId} {v : Value} {xs : List Value} (h : w.ownsRow base e size v n xs) : v.oneCell' = true := by
  rcases h.2 with ⟨rfl, _⟩ | ⟨g, cap, cur, rfl, _⟩ <;> rfl
theorem RefAt.one {w : World} {base gX n : Nat} {L : List RIt} {vL : Value} (h : RefAt w base gX n L vL) : ∀ u ∈ rCells L, u.oneCell' = true := by
  intro u hu
  obtain ⟨x, hx, hu⟩ := List.mem_flatMap.1 hu
  have h1 := own_one (h.it x hx)
  simp only [RIt.cells, callCells, DKey.cells, List.cons_append, List.nil_append, List.mem_cons, List.not_mem_nil, or_false] at hu
  rcases hu with rfl | rfl | rfl | rfl | rfl | rfl | rfl
  all_goals first | rfl | exact h1

set_option maxHeartbeats 4000000 in
theorem rbegin_drop (base gX n : Nat) (l : List DCall) (k : DKey) (w : World) (h : RefInv w base gX n l) (hb : base ≤ w.heap.size) (hl : l.length ≤ 100000) (hn : l.length = n) (i : Nat) (hd0 : fidx (doneAt l) l.length = some i) (hc : l.find? (fun c => decide (c.key = k)) = none) :
    Calls Try.prog 10 #[ptrV (some gX), k.val] w (RBeginPost base gX n l k w) := by
  have Hr := hid (show drcBegin n l k = ((1, []), l.eraseIdx i ++ [⟨k, false, []⟩]) by unfold drcBegin; rw [hc]; simp only [hn, if_true]; rw [← hn, hd0])
  obtain ⟨hi1, hi2, hi3⟩ := fidx_first hd0
  have Hi2 := hid hi2
  have Hi3 := hid hi3
  have Hi1 := hid hi1
  clear hd0 hi1 hi2 hi3
  obtain ⟨L, vL, rfl, h⟩ := h
  rw [List.length_map] at hl
  have HJn := hid (show ∀ y (hy : y < L.length), L[y].c.key ≠ k from fun y hy => by have := List.find?_eq_none.1 hc L[y].c (List.mem_map_of_mem (List.getElem_mem hy)); simpa using this)
  have Hb := hid hb
  have Hl := hid hl
  clear hc hb hl
  obtain ⟨k1, k2, k3, k4, k5⟩ := k
  dsimp only [DKey.val, DKey.cells]
  have K1 := hid (h.keep (below_alloc w (.cells #[.int .u32 (k1 : Int), .int .i64 k2, .int .u32 (k3 : Int), .int .u32 (k4 : Int), .int .u32 (k5 : Int)] 40)))
  have hkey : Blk (w.alloc (.cells #[.int .u32 (k1 : Int), .int .i64 k2, .int .u32 (k3 : Int), .int .u32 (k4 : Int), .int .u32 (k5 : Int)] 40)) w.heap.size 40 #[.int .u32 (k1 : Int), .int .i64 k2, .int .u32 (k3 : Int), .int .u32 (k4 : Int), .int .u32 (k5 : Int)].toList := Blk.new _ _ _
  have Hkey := hid hkey
  clear hkey h
  obtain ⟨_, A, cap, hv, q1, q2, hc⟩ := RowN.of_own K1.out.row
  subst hv
  have hc1 : (w.alloc (.cells #[.int .u32 (k1 : Int), .int .i64 k2, .int .u32 (k3 : Int), .int .u32 (k4 : Int), .int .u32 (k5 : Int)] 40)).cell? ⟨gX, 1, none⟩ = some (.slice A L.length cap) := K1.out.tab.cell 1
  have Hrow := hid hc
  have Hcap := hid q1
  have Hcap2 := hid q2
  clear hc q1 q2
  unfold ptrV
  go_enter Try.func10, Try.ntmps10
  go_wp2_with fail
  go_loopw [6] (fun i wr => ∃ (j q : Nat), j ≤ L.length ∧ i = .int .i64 (j : Int) ∧ wr = (w.alloc (.cells #[.int .u32 (k1 : Int), .int .i64 k2, .int .u32 (k3 : Int), .int .u32 (k4 : Int), .int .u32 (k5 : Int)] 40)).drewN q) (fun i _ => L.length - (intOf i).toNat)
  case atStart => exact ⟨0, 0, Nat.zero_le _, rfl, rfl⟩
  case round =>
    obtain ⟨j, q, hj, rfl, rfl⟩ := hrel
    by_cases hlt : j < L.length
    · have hltI : (j : Int) < (L.length : Int) := by omega
      obtain ⟨gr, off, rfl, hcell⟩ : ∃ gr off, A = some ⟨gr, off, none⟩ ∧ ∀ i x, (rCells L)[i]? = some x → (w.alloc (.cells #[.int .u32 (k1 : Int), .int .i64 k2, .int .u32 (k3 : Int), .int .u32 (k4 : Int), .int .u32 (k5 : Int)] 40)).cell? ⟨gr, off + i, none⟩ = some x := by
        rcases Hrow.out with h0 | h0
        · omega
        · exact h0
      have hcx := fun f (hf : f < 7) x (hx : L[j].cells[f]? = some x) => hcell (j * 7 + f) x ((rCells_at L j f hlt hf).trans hx)
      obtain ⟨⟨⟨⟨a1, a2, a3, a4, a5⟩, done, reply⟩, rv⟩, hx⟩ : ∃ x, L[j] = x := ⟨_, rfl⟩
      rw [hx] at hcx
      have Hx := hid hx
      obtain ⟨wr, hwr⟩ : ∃ wr, wr = (w.alloc (.cells #[.int .u32 (k1 : Int), .int .i64 k2, .int .u32 (k3 : Int), .int .u32 (k4 : Int), .int .u32 (k5 : Int)] 40)).drewN q := ⟨_, rfl⟩
      have Hwr := hid hwr
      have hcy : ∀ f (hf : f < 7) x, (callCells ⟨a1, a2, a3, a4, a5⟩ done rv)[f]? = some x → wr.cell? ⟨gr, off + (j * 7 + f), none⟩ = some x := by rw [hwr]; exact hcx
      have c0 : wr.cell? ⟨gr, off + j * 7, none⟩ = some (.int .u32 (a1 : Int)) := (by rw [← Nat.add_zero (j * 7)]; exact hcy 0 (by decide) _ rfl)
      have c1 : wr.cell? ⟨gr, off + j * 7 + 1, none⟩ = some (.int .i64 a2) := (by rw [Nat.add_assoc]; exact hcy 1 (by decide) _ rfl)
      have c2 : wr.cell? ⟨gr, off + j * 7 + 2, none⟩ = some (.int .u32 (a3 : Int)) := (by rw [Nat.add_assoc]; exact hcy 2 (by decide) _ rfl)
      have c3 : wr.cell? ⟨gr, off + j * 7 + 3, none⟩ = some (.int .u32 (a4 : Int)) := (by rw [Nat.add_assoc]; exact hcy 3 (by decide) _ rfl)
      have c4 : wr.cell? ⟨gr, off + j * 7 + 4, none⟩ = some (.int .u32 (a5 : Int)) := (by rw [Nat.add_assoc]; exact hcy 4 (by decide) _ rfl)
      have c5 : wr.cell? ⟨gr, off + j * 7 + 5, none⟩ = some (.bool done) := (by rw [Nat.add_assoc]; exact hcy 5 (by decide) _ rfl)
      have c6 : wr.cell? ⟨gr, off + j * 7 + 6, none⟩ = some rv := (by rw [Nat.add_assoc]; exact hcy 6 (by decide) _ rfl)
      have hk : Blk wr w.heap.size 40 #[.int .u32 (k1 : Int), .int .i64 k2, .int .u32 (k3 : Int), .int .u32 (k4 : Int), .int .u32 (k5 : Int)].toList := by rw [hwr]; exact Hkey.out.drewN q
      have d0 := hk.cell 0
      have d1 := hk.cell 1
      have d2 := hk.cell 2
      have d3 := hk.cell 3
      have d4 := hk.cell 4
      have c9 : wr.cell? ⟨gX, 1, none⟩ = some (.slice (some ⟨gr, off, none⟩) L.length cap) := by rw [hwr]; exact hc1
      rw [← hwr]
      clear hwr hcx hcell hk hcy
      go_wp2_with fail
      go_cut [27] from 18 to 27 (fun t wx => (∃ q', wx = wr.drewN q') ∧ t = .bool (decide ((⟨a1, a2, a3, a4, a5⟩ : DKey) = (⟨k1, k2, k3, k4, k5⟩ : DKey))))
      case first =>
        (by_cases e1 : a1 = k1); (case neg => (have f1 : decide ((a1 : Int) = (k1 : Int)) = false := decide_eq_false (by omega)); (have f2 : ((a1 : Int) == (k1 : Int)) = false := by simp; omega); (have f3 : ¬ (a1 : Int) = (k1 : Int) := by omega); (have He := hid (show decide ((⟨a1, a2, a3, a4, a5⟩ : DKey) = (⟨k1, k2, k3, k4, k5⟩ : DKey)) = false from decide_eq_false (fun e => e1 (by injection e)))); clear e1; (go_quiet (fail)); go_wp2; go_meet; (case rel => exact ⟨⟨_, rfl⟩, by rw [He.out]⟩)); subst a1; (by_cases e2 : a2 = k2); (case neg => (have f1 : decide (a2 = k2) = false := decide_eq_false (by omega)); (have f2 : (a2 == k2) = false := by simp; omega); (have f3 : ¬ a2 = k2 := by omega); (have He := hid (show decide ((⟨k1, a2, a3, a4, a5⟩ : DKey) = (⟨k1, k2, k3, k4, k5⟩ : DKey)) = false from decide_eq_false (fun e => e2 (by injection e)))); clear e2; (go_quiet (fail)); go_wp2; go_meet; (case rel => exact ⟨⟨_, rfl⟩, by rw [He.out]⟩)); subst a2; (by_cases e3 : a3 = k3); (case neg => (have f1 : decide ((a3 : Int) = (k3 : Int)) = false := decide_eq_false (by omega)); (have f2 : ((a3 : Int) == (k3 : Int)) = false := by simp; omega); (have f3 : ¬ (a3 : Int) = (k3 : Int) := by omega); (have He := hid (show decide ((⟨k1, k2, a3, a4, a5⟩ : DKey) = (⟨k1, k2, k3, k4, k5⟩ : DKey)) = false from decide_eq_false (fun e => e3 (by injection e)))); clear e3; (go_quiet (fail)); go_wp2; go_meet; (case rel => exact ⟨⟨_, rfl⟩, by rw [He.out]⟩)); subst a3; (by_cases e4 : a4 = k4); (case neg => (have f1 : decide ((a4 : Int) = (k4 : Int)) = false := decide_eq_false (by omega)); (have f2 : ((a4 : Int) == (k4 : Int)) = false := by simp; omega); (have f3 : ¬ (a4 : Int) = (k4 : Int) := by omega); (have He := hid (show decide ((⟨k1, k2, k3, a4, a5⟩ : DKey) = (⟨k1, k2, k3, k4, k5⟩ : DKey)) = false from decide_eq_false (fun e => e4 (by injection e)))); clear e4; (go_quiet (fail)); go_wp2; go_meet; (case rel => exact ⟨⟨_, rfl⟩, by rw [He.out]⟩)); subst a4; (by_cases e5 : a5 = k5); (case neg => (have f1 : decide ((a5 : Int) = (k5 : Int)) = false := decide_eq_false (by omega)); (have f2 : ((a5 : Int) == (k5 : Int)) = false := by simp; omega); (have f3 : ¬ (a5 : Int) = (k5 : Int) := by omega); (have He := hid (show decide ((⟨k1, k2, k3, k4, a5⟩ : DKey) = (⟨k1, k2, k3, k4, k5⟩ : DKey)) = false from decide_eq_false (fun e => e5 (by injection e)))); clear e5; (go_quiet (fail)); go_wp2; go_meet; (case rel => exact ⟨⟨_, rfl⟩, by rw [He.out]⟩)); subst a5; (go_quiet (fail)); go_wp2; go_meet; (case rel => exact ⟨⟨_, rfl⟩, by simp⟩)
      case rest =>
      obtain ⟨⟨q1, rfl⟩, rfl⟩ := hcut
      have hd : decide ((⟨a1, a2, a3, a4, a5⟩ : DKey) = (⟨k1, k2, k3, k4, k5⟩ : DKey)) = false := decide_eq_false (fun e => HJn.out j hlt (by rw [hx]; exact e))
      rw [hd]
      have hl := Hl.out
      go_wp2_with fail
      exact ⟨⟨j + 1, q + q1, by omega, val_int (by omega), by rw [Hwr.out]; simp [World.drewN, Nat.add_assoc]⟩, by simp [intOf]; omega⟩
    have hjL : j = L.length := by omega
    subst hjL
    have hltI : ¬ (L.length : Int) < (L.length : Int) := by omega
    have Kr := hid (show RefAt ((w.alloc (.cells #[.int .u32 (k1 : Int), .int .i64 k2, .int .u32 (k3 : Int), .int .u32 (k4 : Int), .int .u32 (k5 : Int)] 40)).drewN q) base gX n L (.slice A L.length cap) from K1.out.keep (below_drewN (Below.refl _ _) q))
    have HBr := hid (show Below w.heap.size w ((w.alloc (.cells #[.int .u32 (k1 : Int), .int .i64 k2, .int .u32 (k3 : Int), .int .u32 (k4 : Int), .int .u32 (k5 : Int)] 40)).drewN q) from below_drewN (below_alloc w _) q)
    have Hkr := hid (show Blk ((w.alloc (.cells #[.int .u32 (k1 : Int), .int .i64 k2, .int .u32 (k3 : Int), .int .u32 (k4 : Int), .int .u32 (k5 : Int)] 40)).drewN q) w.heap.size 40 #[.int .u32 (k1 : Int), .int .i64 k2, .int .u32 (k3 : Int), .int .u32 (k4 : Int), .int .u32 (k5 : Int)].toList from Hkey.out.drewN q)
    have Hcell := hid (show L.length = 0 ∨ ∃ gr off, A = some ⟨gr, off, none⟩ ∧ ∀ i x, (rCells L)[i]? = some x → ((w.alloc (.cells #[.int .u32 (k1 : Int), .int .i64 k2, .int .u32 (k3 : Int), .int .u32 (k4 : Int), .int .u32 (k5 : Int)] 40)).drewN q).cell? ⟨gr, off + i, none⟩ = some x from Hrow.out)
    clear hlt hj K1 Hkey Hrow hc1
    generalize (w.alloc (.cells #[.int .u32 (k1 : Int), .int .i64 k2, .int .u32 (k3 : Int), .int .u32 (k4 : Int), .int .u32 (k5 : Int)] 40)).drewN q = wr at Kr HBr Hkr Hcell ⊢
    have c0 := Kr.out.tab.cell 0
    have c1 := Kr.out.tab.cell 1
    go_wp2_with fail
    rw [List.length_map] at hn
    subst hn
    have hnI : (L.length : Int) ≤ (L.length : Int) := by omega
    go_quiet (fail)
    have Kq := hid (Kr.out.keep (below_drewN (Below.refl _ _) nq))
    have HBq := hid (below_drewN HBr.out nq)
    have Hkq := hid (Hkr.out.drewN nq)
    have Hcq := hid (show L.length = 0 ∨ ∃ gr off, A = some ⟨gr, off, none⟩ ∧ ∀ i x, (rCells L)[i]? = some x → (wr.drewN nq).cell? ⟨gr, off + i, none⟩ = some x from Hcell.out)
    clear Kr HBr Hkr Hcell c0 c1
    generalize wr.drewN nq = wq at *
    have c1 := Kq.out.tab.cell 1
    go_wp2_with fail
    have hiL : i < L.length := by have := Hi1.out; rwa [List.length_map] at this
    go_loopw [7] (fun s wr => ∃ j : Nat, j ≤ i ∧ s = .int .i64 (j : Int) ∧ wr = wq) (fun i _ => L.length - (intOf i).toNat)
    case atStart => exact ⟨0, Nat.zero_le _, rfl, rfl⟩
    case round =>
      obtain ⟨j, hj, rfl, rfl⟩ := hrel
      have hlt : j < L.length := by omega
      have hltJ : (j : Int) < (L.length : Int) := by omega
      by_cases hji : j = i
      · subst hji
        have Hcap3 := hid (show RowN wr 7 (.slice A L.length cap) L.length (rCells L) from RowN.of_own Kq.out.row)
        obtain ⟨gr, off, rfl, hcell⟩ : ∃ gr off, A = some ⟨gr, off, none⟩ ∧ ∀ i x, (rCells L)[i]? = some x → wr.cell? ⟨gr, off + i, none⟩ = some x := by
          rcases Hcq.out with h0 | h0
          · omega
          · exact h0
        have c5 : wr.cell? ⟨gr, off + j * 7 + 5, none⟩ = some (.bool L[j].c.done) := (by rw [Nat.add_assoc]; exact hcell (j * 7 + 5) _ ((rCells_at L j 5 hlt (by decide)).trans rfl))
        have hdj : L[j].c.done = true := by rw [← doneAt_map hlt]; exact Hi2.out
        rw [hdj] at c5
        have hne : ¬ (j : Int) = (L.length : Int) := by omega
        obtain ⟨ii, hii, hz, hss, hby⟩ := info_parts knowninfo
        have s1 := run_cut_to (P := Try.prog) (T := 46) Try.underlying46 hii (some ⟨gr, off, none⟩) L.length cap .i64 (j : Int) j rfl (by have := Hcap.out; omega)
        rw [hss] at s1
        have r1 := hid (show RowN wr 7 (.slice (cutA (some ⟨gr, off, none⟩) cap 0 7) j cap) j (rCells (L.take j)) by
          have h7 := Hcap3.out.cut (l := 0) (k := j) (by omega)
          rw [Nat.zero_mul, List.drop_zero, ← rCells_take] at h7
          exact h7)
        have r2 := hid (show RowN wr 7 (.slice (cutA (some ⟨gr, off, none⟩) cap (j + 1) 7) (L.length - (j + 1)) (cap - (j + 1))) (L.length - (j + 1)) (rCells (L.drop (j + 1))) by
          have h7 := Hcap3.out.cut (l := j + 1) (k := L.length - (j + 1)) (by omega)
          rw [← rCells_drop, List.take_of_length_le (by rw [rCells_len]; simp)] at h7
          exact h7)
        have o1 := hid (show ∀ u ∈ rCells (L.take j), u.oneCell' = true from fun u hu => Kq.out.one u (by rw [rCells_take] at hu; exact List.mem_of_mem_take hu))
        have o2 := hid (show ∀ u ∈ rCells (L.drop (j + 1)), u.oneCell' = true from fun u hu => Kq.out.one u (by rw [rCells_drop] at hu; exact List.mem_of_mem_drop hu))
        obtain ⟨L2, hL2⟩ : ∃ L2, L2 = L.eraseIdx j := ⟨_, rfl⟩
        have H2 := hid (show rCells (L.take j) ++ rCells (L.drop (j + 1)) = rCells L2 ∧ j + (L.length - (j + 1)) = L2.length by
          rw [hL2, ← rCells_append, ← List.eraseIdx_eq_take_drop_succ]
          exact ⟨rfl, by rw [List.length_eraseIdx_of_lt hlt]; omega⟩)
        have hwj : IntKind.i64.wrap ((j : Int) + 1) = (j : Int) + 1 := by have := Hl.out; exact IntWalk.i64_in _ (by omega)
        have s2 := run_cut_from (P := Try.prog) (T := 46) Try.underlying46 hii (some ⟨gr, off, none⟩) L.length cap .i64 ((j : Int) + 1) (j + 1) (L.length - (j + 1)) (by omega) (by omega) Hcap.out
        rw [hss] at s2
        clear hii hz hss hby hcell hdj
        have hl := Hl.out
        have HL2 := hid hL2
        clear hL2
        go_upto_region 17 with (first
          | ((with_reducible show wpList _ _ _ (Oper.mk (some 90) _ _ _ _ _ :: _) _ _); refine wpList_app _ rfl _ _ 46 rfl wr.heap.size 50 (.agg #[.int .u32 0, .int .i64 0, .int .u32 0, .int .u32 0, .int .u32 0, .bool false, .slice none 0 0]) 7 64 knownok _ 0 [] rfl (World.ownsRow_nil _ _ _ _) _ j _ rfl r1.out o1.out (by omega) (by simp only [maxLen]; omega) (Nat.le_refl _) ?_; intro v8 w8 hown8 hg8 hat8; rw [List.nil_append, Nat.zero_add] at hown8; have Hb8 := hid (grown_below (World.ownsRow_nil wr wr.heap.size 50 7) (Nat.le_refl _) hg8); have c1b := cell_below Hb8.out c1; have Hown8 := hid hown8; clear hat8 hg8 hown8)
          | ((with_reducible show wpList _ _ _ (Oper.mk (some 100) _ _ _ _ _ :: _) _ _); refine wpList_app _ rfl _ _ 46 rfl wr.heap.size 50 (.agg #[.int .u32 0, .int .i64 0, .int .u32 0, .int .u32 0, .int .u32 0, .bool false, .slice none 0 0]) 7 64 knownok _ j _ rfl Hown8.out _ (L.length - (j + 1)) _ rfl (r2.out.below Hb8.out) o2.out (by omega) (by simp only [maxLen]; omega) Hb8.out.size ?_; intro v9 w9 hown9 hg9 hat9; rw [H2.out.1, H2.out.2] at hown9; have Hb9 := hid (Hb8.out.trans (grown_below Hown8.out Hb8.out.size hg9)); obtain ⟨_, A9, c9, rfl, _, _, _⟩ := RowN.of_own hown9; have c1c := (Kq.out.tab.keep Hb9.out).cell 1; have z1c := (Kq.out.tab.keep Hb9.out).frozen 1; have Hown9 := hid hown9; clear hat9 hg9 hown9))
        have hgt1 := grown_set w9 gX 1 (.slice A9 L2.length c9)
        have htab9 := Kq.out.tab.keep Hb9.out
        have hks := store_keepsT hgt1 htab9
        have K2 := hid (show RefAt (w9.setCell ⟨gX, 1, none⟩ (.slice A9 L2.length c9)) base gX L.length L2 (.slice A9 L2.length c9) from
          ⟨htab9.set_ 1 _, Kq.out.tabB, own_store (own_mono Hown9.out (Nat.le_trans Hb.out HBq.out.size)) htab9 (by decide) hgt1, fun x hx => hks.row ((Kq.out.it x (by rw [HL2.out] at hx; exact (List.eraseIdx_sublist L j).subset hx)).below Hb9.out) (by decide)⟩)
        have HB2 := hid (below_own ((HBq.out.mono Hb.out).trans (Hb9.out.mono (Nat.le_trans Hb.out HBq.out.size))) hgt1 Kq.out.tabB (Nat.le_trans Hb.out (Nat.le_trans HBq.out.size Hb9.out.size)))
        have RS2 := hid ((Below.rspares HBq.out).trans ((Below.rspares Hb9.out).trans (tab_rspares htab9 hgt1)))
        have Hk2 := hid (hks.blk (Hkq.out.keep Hb9.out) (by decide))
        have Hl2 := hid (show L2.length ≤ 100000 by rw [HL2.out, List.length_eraseIdx_of_lt hlt]; omega)
        clear hgt1 htab9 hks Kq HBq Hkq Hb9 Hown9 Hown8 Hb8 c1b c1c z1c r1 r2 o1 o2 s1 s2 H2 c1 Hl hl hwj
        generalize w9.setCell ⟨gX, 1, none⟩ (.slice A9 L2.length c9) = wq at *
        have Kq := K2
        have HBq := HB2
        have Hl := Hl2
        have c0 := Kq.out.tab.cell 0
        have c1 := Kq.out.tab.cell 1
        have c1a := cell_below (below_alloc wq (.cells #[.int .u32 (k1 : Int), .int .i64 k2, .int .u32 (k3 : Int), .int .u32 (k4 : Int), .int .u32 (k5 : Int), .bool false, .slice none 0 0] 50)) c1
        have d0 := Hk2.out.cell 0
        have d1 := Hk2.out.cell 1
        have d2 := Hk2.out.cell 2
        have d3 := Hk2.out.cell 3
        have d4 := Hk2.out.cell 4
        go_region_law (first
          | (refine step_appG _ (by rfl) _ _ 46 (by rfl) base 50 (.agg #[.int .u32 0, .int .i64 0, .int .u32 0, .int .u32 0, .int .u32 0, .bool false, .slice none 0 0]) 7 64 knownok (.slice A9 L2.length c9) L2.length (rCells L2) (by rfl) (by first | exact Kq.out.row.alloc _ | exact (Kq.out.row.alloc _).drew | exact Kq.out.row.drew.alloc _) (.slice (some ⟨wq.heap.size, 0, none⟩) 1 1) 1 #[.int .u32 (k1 : Int), .int .i64 k2, .int .u32 (k3 : Int), .int .u32 (k4 : Int), .int .u32 (k5 : Int), .bool false, .slice none 0 0].toList (by rfl) (by first | exact rowS_lit 7 #[.int .u32 (k1 : Int), .int .i64 k2, .int .u32 (k3 : Int), .int .u32 (k4 : Int), .int .u32 (k5 : Int), .bool false, .slice none 0 0] 1 _ rfl (by simp) (by simp [maxLen]) | exact (rowS_lit 7 #[.int .u32 (k1 : Int), .int .i64 k2, .int .u32 (k3 : Int), .int .u32 (k4 : Int), .int .u32 (k5 : Int), .bool false, .slice none 0 0] 1 _ rfl (by simp) (by simp [maxLen])).drew) (by simp [Value.oneCell']) (by have := Hl.out; omega) (by have := Hl.out; simp only [maxLen]; omega) (by have := HBq.out.size; have := Hb.out; simp; omega) ?_; intro v9 w9 hown9 hg8; have hg9 : (wq.alloc (.cells #[.int .u32 (k1 : Int), .int .i64 k2, .int .u32 (k3 : Int), .int .u32 (k4 : Int), .int .u32 (k5 : Int), .bool false, .slice none 0 0] 50)).grownBy w9 (Value.slice A9 L2.length c9).ownBlock := (by first | exact hg8 | exact grown_undrew hg8); clear hg8; obtain ⟨_, A9, c9, rfl, _, _, _⟩ := RowN.of_own hown9; have tab9 := (app_keepsT (Kq.out.row.alloc (.cells #[.int .u32 (k1 : Int), .int .i64 k2, .int .u32 (k3 : Int), .int .u32 (k4 : Int), .int .u32 (k5 : Int), .bool false, .slice none 0 0] 50)) hg9).blk (Kq.out.tab.alloc _) (by decide); have c1b := tab9.cell 1; have z1b := tab9.frozen 1; have Hown9 := hid hown9; have Hg9 := hid hg9; clear hown9 hg9 tab9)
          | fail)
        all_goals
          go_wp2_with fail
          go_ret2
          unfold RBeginPost
          rw [Hr.out]
          have hgt := grown_set w9 gX 1 (.slice A9 (L2.length + 1) c9)
          have hkeep : KeepsT wq w9 (· ≠ 50) := (Below.keepsT (below_alloc wq (.cells #[.int .u32 (k1 : Int), .int .i64 k2, .int .u32 (k3 : Int), .int .u32 (k4 : Int), .int .u32 (k5 : Int), .bool false, .slice none 0 0] 50)) _).trans (app_keepsT (Kq.out.row.alloc _) Hg9.out)
          have htab := hkeep.blk Kq.out.tab (by decide)
          have hB9 : Below base w w9 := ((HBq.out.trans ((below_alloc wq (.cells #[.int .u32 (k1 : Int), .int .i64 k2, .int .u32 (k3 : Int), .int .u32 (k4 : Int), .int .u32 (k5 : Int), .bool false, .slice none 0 0] 50)).mono (Nat.le_trans Hb.out HBq.out.size))).grown Hg9.out (by have := HBq.out.size; have := Hb.out; simp; omega) (fun k hk => (World.ownsRow.lt Kq.out.row k hk).1))
          refine ⟨_, rfl, OwnBs.nil _ _ _, ⟨_, _, ?_, Kq.out.push (k := (⟨k1, k2, k3, k4, k5⟩ : DKey)) hkeep rfl Hown9.out⟩, below_own hB9 hgt Kq.out.tabB (Nat.le_trans Hb.out hB9.size), ?_, .inl rfl⟩
          · rw [List.map_append, HL2.out, List.eraseIdx_eq_take_drop_succ, List.eraseIdx_eq_take_drop_succ, List.map_append, List.map_take, List.map_drop]; rfl
          · exact RS2.out.trans ((Below.rspares (below_alloc wq (.cells #[.int .u32 (k1 : Int), .int .i64 k2, .int .u32 (k3 : Int), .int .u32 (k4 : Int), .int .u32 (k5 : Int), .bool false, .slice none 0 0] 50))).trans ((app_rspares (Kq.out.row.alloc _) Hg9.out).trans (tab_rspares htab hgt)))
      · have Hj := hid hj
        clear hj
        obtain ⟨gr, off, rfl, hcell⟩ : ∃ gr off, A = some ⟨gr, off, none⟩ ∧ ∀ i x, (rCells L)[i]? = some x → wr.cell? ⟨gr, off + i, none⟩ = some x := by
          rcases Hcq.out with h0 | h0
          · omega
          · exact h0
        have c5 : wr.cell? ⟨gr, off + j * 7 + 5, none⟩ = some (.bool L[j].c.done) := (by rw [Nat.add_assoc]; exact hcell (j * 7 + 5) _ ((rCells_at L j 5 hlt (by decide)).trans rfl))
        have hdj : L[j].c.done = false := by rw [← doneAt_map hlt]; exact Hi3.out j (by have := Hj.out; omega)
        rw [hdj] at c5
        have hl := Hl.out
        go_wp2_with fail
        exact ⟨⟨j + 1, by have := Hj.out; omega, val_int (by omega), trivial⟩, by simp [intOf]; omega⟩
end Go.Proofs.Ytkgeccmpekclcaa
