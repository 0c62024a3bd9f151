/- The document's table's Begin: the search. -/
import Derived.Test.YtkgeccmpekclcaaDrcU
import Derived.Deep.Cut
import Derived.Deep.CutRange
namespace Go.Proofs.Ytkgeccmpekclcaa
open Go Go.RowKit
attribute [local go_sem ↓] Go.wp_at_zero Go.wp_at_succ
set_option maxRecDepth 100000

theorem fidx_find {l : List DCall} {k : DKey} {c : DCall} (h : l.find? (fun c => decide (c.key = k)) = some c) : ∃ (J : Nat) (hJ : J < l.length), l[J] = c ∧ c.key = k ∧ ∀ y (hy : y < l.length), y < J → l[y].key ≠ k := by
  obtain ⟨h1, J, hJ, h2, h3⟩ := List.find?_eq_some_iff_getElem.1 h
  exact ⟨J, hJ, h2, by simpa using h1, fun y hy hyJ => by simpa using h3 y hyJ⟩

def RBeginPost (base gX n : Nat) (l : List DCall) (k : DKey) (w : World) (e : Ending) (w' : World) : Prop :=
  ∃ v', e = .returned (.tuple #[.int .i64 (drcBegin n l k).1.1, v']) ∧ OwnBs w' w.heap.size 5 v' (drcBegin n l k).1.2 ∧ RefInv w' base gX n (drcBegin n l k).2 ∧ Below base w w' ∧ RSpares w w' ∧ ((drcBegin n l k).1.2 = [] ∨ Below w.heap.size w w')

theorem rbegin_hit (base gX n : Nat) (l : List DCall) (k : DKey) (w : World) (h : RefInv w base gX n l) (hb : base ≤ w.heap.size) (hl : l.length ≤ 100000) (hrep : ∀ c ∈ l, c.reply.length ≤ 1099511627776) (c : DCall) (hc : l.find? (fun c => decide (c.key = k)) = some c) :
    Calls Try.prog 10 #[ptrV (some gX), k.val] w (RBeginPost base gX n l k w) := by
  obtain ⟨L, vL, rfl, h⟩ := h
  have Hr := hid (show drcBegin n (L.map RIt.c) k = if c.done then ((3, c.reply), L.map RIt.c) else ((2, []), L.map RIt.c) by unfold drcBegin; rw [hc])
  obtain ⟨J, hJ, hJc, hck, hJn⟩ := fidx_find hc
  rw [List.length_map] at hl hJ
  rw [List.getElem_map] at hJc
  have Hrl := hid (hrep c (List.mem_of_find?_eq_some hc))
  have Hb := hid hb
  have HJn := hid (show ∀ y (hy : y < L.length), y < J → L[y].c.key ≠ k from fun y hy hyJ => by have := hJn y (by simpa using hy) hyJ; rwa [List.getElem_map] at this)
  clear hc hJn hrep hb
  obtain ⟨k1, k2, k3, k4, k5⟩ := k
  dsimp only [DKey.val, DKey.cells]
  have K1 := hid (h.keep (below_alloc w (.cells #[.int .u32 (k1 : Int), .int .i64 k2, .int .u32 (k3 : Int), .int .u32 (k4 : Int), .int .u32 (k5 : Int)] 40)))
  have hkey : Blk (w.alloc (.cells #[.int .u32 (k1 : Int), .int .i64 k2, .int .u32 (k3 : Int), .int .u32 (k4 : Int), .int .u32 (k5 : Int)] 40)) w.heap.size 40 #[.int .u32 (k1 : Int), .int .i64 k2, .int .u32 (k3 : Int), .int .u32 (k4 : Int), .int .u32 (k5 : Int)].toList := Blk.new _ _ _
  have Hkey := hid hkey
  clear hkey h
  obtain ⟨_, A, cap, hv, q1, q2, hc⟩ := RowN.of_own K1.out.row
  subst hv
  have hc1 : (w.alloc (.cells #[.int .u32 (k1 : Int), .int .i64 k2, .int .u32 (k3 : Int), .int .u32 (k4 : Int), .int .u32 (k5 : Int)] 40)).cell? ⟨gX, 1, none⟩ = some (.slice A L.length cap) := K1.out.tab.cell 1
  have Hrow := hid hc
  clear hc q1 q2
  unfold ptrV
  go_enter Try.func10, Try.ntmps10
  go_wp2_with fail
  go_loopw [6] (fun i wr => ∃ (j q : Nat), j ≤ J ∧ i = .int .i64 (j : Int) ∧ wr = (w.alloc (.cells #[.int .u32 (k1 : Int), .int .i64 k2, .int .u32 (k3 : Int), .int .u32 (k4 : Int), .int .u32 (k5 : Int)] 40)).drewN q) (fun i _ => L.length - (intOf i).toNat)
  case atStart => exact ⟨0, 0, Nat.zero_le _, rfl, rfl⟩
  case round =>
    obtain ⟨j, q, hj, rfl, rfl⟩ := hrel
    have hlt : j < L.length := by omega
    have hltI : (j : Int) < (L.length : Int) := by omega
    obtain ⟨gr, off, rfl, hcell⟩ : ∃ gr off, A = some ⟨gr, off, none⟩ ∧ ∀ i x, (rCells L)[i]? = some x → (w.alloc (.cells #[.int .u32 (k1 : Int), .int .i64 k2, .int .u32 (k3 : Int), .int .u32 (k4 : Int), .int .u32 (k5 : Int)] 40)).cell? ⟨gr, off + i, none⟩ = some x := by
      rcases Hrow.out with h0 | h0
      · omega
      · exact h0
    have hcx := fun f (hf : f < 7) x (hx : L[j].cells[f]? = some x) => hcell (j * 7 + f) x ((rCells_at L j f hlt hf).trans hx)
    obtain ⟨⟨⟨⟨a1, a2, a3, a4, a5⟩, done, reply⟩, rv⟩, hx⟩ : ∃ x, L[j] = x := ⟨_, rfl⟩
    rw [hx] at hcx
    have Hx := hid hx
    obtain ⟨wr, hwr⟩ : ∃ wr, wr = (w.alloc (.cells #[.int .u32 (k1 : Int), .int .i64 k2, .int .u32 (k3 : Int), .int .u32 (k4 : Int), .int .u32 (k5 : Int)] 40)).drewN q := ⟨_, rfl⟩
    have Hwr := hid hwr
    have hcy : ∀ f (hf : f < 7) x, (callCells ⟨a1, a2, a3, a4, a5⟩ done rv)[f]? = some x → wr.cell? ⟨gr, off + (j * 7 + f), none⟩ = some x := by rw [hwr]; exact hcx
    have c0 : wr.cell? ⟨gr, off + j * 7, none⟩ = some (.int .u32 (a1 : Int)) := (by rw [← Nat.add_zero (j * 7)]; exact hcy 0 (by decide) _ rfl)
    have c1 : wr.cell? ⟨gr, off + j * 7 + 1, none⟩ = some (.int .i64 a2) := (by rw [Nat.add_assoc]; exact hcy 1 (by decide) _ rfl)
    have c2 : wr.cell? ⟨gr, off + j * 7 + 2, none⟩ = some (.int .u32 (a3 : Int)) := (by rw [Nat.add_assoc]; exact hcy 2 (by decide) _ rfl)
    have c3 : wr.cell? ⟨gr, off + j * 7 + 3, none⟩ = some (.int .u32 (a4 : Int)) := (by rw [Nat.add_assoc]; exact hcy 3 (by decide) _ rfl)
    have c4 : wr.cell? ⟨gr, off + j * 7 + 4, none⟩ = some (.int .u32 (a5 : Int)) := (by rw [Nat.add_assoc]; exact hcy 4 (by decide) _ rfl)
    have c5 : wr.cell? ⟨gr, off + j * 7 + 5, none⟩ = some (.bool done) := (by rw [Nat.add_assoc]; exact hcy 5 (by decide) _ rfl)
    have c6 : wr.cell? ⟨gr, off + j * 7 + 6, none⟩ = some rv := (by rw [Nat.add_assoc]; exact hcy 6 (by decide) _ rfl)
    have hk : Blk wr w.heap.size 40 #[.int .u32 (k1 : Int), .int .i64 k2, .int .u32 (k3 : Int), .int .u32 (k4 : Int), .int .u32 (k5 : Int)].toList := by rw [hwr]; exact Hkey.out.drewN q
    have d0 := hk.cell 0
    have d1 := hk.cell 1
    have d2 := hk.cell 2
    have d3 := hk.cell 3
    have d4 := hk.cell 4
    have c9 : wr.cell? ⟨gX, 1, none⟩ = some (.slice (some ⟨gr, off, none⟩) L.length cap) := by rw [hwr]; exact hc1
    rw [← hwr]
    clear hwr hcx hcell hk hcy
    go_wp2_with fail
    go_cut [27] from 18 to 27 (fun t wx => (∃ q', wx = wr.drewN q') ∧ t = .bool (decide ((⟨a1, a2, a3, a4, a5⟩ : DKey) = (⟨k1, k2, k3, k4, k5⟩ : DKey))))
    case first =>
      (by_cases e1 : a1 = k1); (case neg => (have f1 : decide ((a1 : Int) = (k1 : Int)) = false := decide_eq_false (by omega)); (have f2 : ((a1 : Int) == (k1 : Int)) = false := by simp; omega); (have f3 : ¬ (a1 : Int) = (k1 : Int) := by omega); (have He := hid (show decide ((⟨a1, a2, a3, a4, a5⟩ : DKey) = (⟨k1, k2, k3, k4, k5⟩ : DKey)) = false from decide_eq_false (fun e => e1 (by injection e)))); clear e1; (go_quiet (fail)); go_wp2; go_meet; (case rel => exact ⟨⟨_, rfl⟩, by rw [He.out]⟩)); subst a1; (by_cases e2 : a2 = k2); (case neg => (have f1 : decide (a2 = k2) = false := decide_eq_false (by omega)); (have f2 : (a2 == k2) = false := by simp; omega); (have f3 : ¬ a2 = k2 := by omega); (have He := hid (show decide ((⟨k1, a2, a3, a4, a5⟩ : DKey) = (⟨k1, k2, k3, k4, k5⟩ : DKey)) = false from decide_eq_false (fun e => e2 (by injection e)))); clear e2; (go_quiet (fail)); go_wp2; go_meet; (case rel => exact ⟨⟨_, rfl⟩, by rw [He.out]⟩)); subst a2; (by_cases e3 : a3 = k3); (case neg => (have f1 : decide ((a3 : Int) = (k3 : Int)) = false := decide_eq_false (by omega)); (have f2 : ((a3 : Int) == (k3 : Int)) = false := by simp; omega); (have f3 : ¬ (a3 : Int) = (k3 : Int) := by omega); (have He := hid (show decide ((⟨k1, k2, a3, a4, a5⟩ : DKey) = (⟨k1, k2, k3, k4, k5⟩ : DKey)) = false from decide_eq_false (fun e => e3 (by injection e)))); clear e3; (go_quiet (fail)); go_wp2; go_meet; (case rel => exact ⟨⟨_, rfl⟩, by rw [He.out]⟩)); subst a3; (by_cases e4 : a4 = k4); (case neg => (have f1 : decide ((a4 : Int) = (k4 : Int)) = false := decide_eq_false (by omega)); (have f2 : ((a4 : Int) == (k4 : Int)) = false := by simp; omega); (have f3 : ¬ (a4 : Int) = (k4 : Int) := by omega); (have He := hid (show decide ((⟨k1, k2, k3, a4, a5⟩ : DKey) = (⟨k1, k2, k3, k4, k5⟩ : DKey)) = false from decide_eq_false (fun e => e4 (by injection e)))); clear e4; (go_quiet (fail)); go_wp2; go_meet; (case rel => exact ⟨⟨_, rfl⟩, by rw [He.out]⟩)); subst a4; (by_cases e5 : a5 = k5); (case neg => (have f1 : decide ((a5 : Int) = (k5 : Int)) = false := decide_eq_false (by omega)); (have f2 : ((a5 : Int) == (k5 : Int)) = false := by simp; omega); (have f3 : ¬ (a5 : Int) = (k5 : Int) := by omega); (have He := hid (show decide ((⟨k1, k2, k3, k4, a5⟩ : DKey) = (⟨k1, k2, k3, k4, k5⟩ : DKey)) = false from decide_eq_false (fun e => e5 (by injection e)))); clear e5; (go_quiet (fail)); go_wp2; go_meet; (case rel => exact ⟨⟨_, rfl⟩, by rw [He.out]⟩)); subst a5; (go_quiet (fail)); go_wp2; go_meet; (case rel => exact ⟨⟨_, rfl⟩, by simp⟩)
    case rest =>
    obtain ⟨⟨q1, rfl⟩, rfl⟩ := hcut
    by_cases hjJ : j = J
    · subst hjJ
      have hd : decide ((⟨a1, a2, a3, a4, a5⟩ : DKey) = (⟨k1, k2, k3, k4, k5⟩ : DKey)) = true := decide_eq_true (by rw [← hck, ← hJc, hx])
      rw [hd]
      rw [hx] at hJc
      subst hJc
      have Kq := hid (show RefAt (wr.drewN q1) base gX n L (.slice (some ⟨gr, off, none⟩) L.length cap) by rw [Hwr.out]; exact K1.out.keep (below_drewN (below_drewN (Below.refl _ _) q) q1))
      have HB := hid (show Below w.heap.size w (wr.drewN q1) by rw [Hwr.out]; exact below_drewN (below_drewN (below_alloc w _) q) q1)
      have c5q : (wr.drewN q1).cell? ⟨gr, off + j * 7 + 5, none⟩ = some (.bool done) := c5
      have c6q : (wr.drewN q1).cell? ⟨gr, off + j * 7 + 6, none⟩ = some rv := c6
      have c9q : (wr.drewN q1).cell? ⟨gX, 1, none⟩ = some (.slice (some ⟨gr, off, none⟩) L.length cap) := c9
      have HR := hid (show Bs (wr.drewN q1) rv reply by have := (Kq.out.it L[j] (List.getElem_mem hlt)).bs; rw [Hx.out] at this; exact this)
      have Hs := hid HB.out.size
      clear c0 c1 c2 c3 c4 c5 c6 c9 d0 d1 d2 d3 d4 hd
      generalize wr.drewN q1 = wq at *
      cases done with
      | true =>
        have c9r := cell_below (below_alloc wq (.cells #[] 5)) c9q
        have c6r := cell_below (below_alloc wq (.cells #[] 5)) c6q
        go_wp2_with ((with_reducible show wpList _ _ _ (Oper.mk (some 45) _ _ _ _ _ :: _) _ _); refine wpList_app8 _ rfl _ _ 34 rfl _ 5 u8ok (.slice (some ⟨_, 0, none⟩) 0 0) [] rfl (ownBs_litNil (by simp) (Nat.le_refl _)) _ reply rfl (HR.out.alloc _) (by have := Hrl.out; simp only [List.length_nil] at *; omega) (by simp) ?_; intro v6 w6 hown hb hg2 hat2; rw [List.nil_append] at hown; clear hg2 hat2; have Hown := hid hown; have Hb6 := hid ((below_alloc _ _).trans hb); clear hown hb)
        go_ret2
        unfold RBeginPost
        rw [Hr.out]
        have hB2 : Below w.heap.size w w6 := HB.out.trans (Hb6.out.mono Hs.out)
        exact ⟨_, rfl, Hown.out.mono (by have := Hs.out; omega), ⟨L, _, rfl, Kq.out.keep Hb6.out⟩, hB2.mono Hb.out, Below.rspares hB2, .inr hB2⟩
      | false =>
        go_wp2_with fail
        go_ret2
        unfold RBeginPost
        rw [Hr.out]
        exact ⟨_, rfl, OwnBs.nil _ _ _, ⟨L, _, rfl, Kq.out⟩, HB.out.mono Hb.out, Below.rspares HB.out, .inl rfl⟩
    · have hd : decide ((⟨a1, a2, a3, a4, a5⟩ : DKey) = (⟨k1, k2, k3, k4, k5⟩ : DKey)) = false := decide_eq_false (fun e => HJn.out j hlt (by omega) (by rw [hx]; exact e))
      rw [hd]
      go_wp2_with fail
      exact ⟨⟨j + 1, q + q1, by omega, val_int (by omega), by rw [Hwr.out]; simp [World.drewN, Nat.add_assoc]⟩, by simp [intOf]; omega⟩
end Go.Proofs.Ytkgeccmpekclcaa
