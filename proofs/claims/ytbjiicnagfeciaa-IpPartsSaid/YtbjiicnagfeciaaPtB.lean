/- One that waits is let go. -/
import Derived.Test.YtbjiicnagfeciaaPtDel
namespace Go.Proofs.Ytbjiicnagfeciaa
open Go Go.RowKit
attribute [local go_sem ↓] Go.wp_at_zero Go.wp_at_succ
set_option maxRecDepth 100000

theorem RowAt.toS {w : World} {base : Nat} {e : TypeId} {v : Value} {xs : List Value} (h : RowAt w base e v xs) : RowAtS w base e 1 v xs.length xs := by
  refine ⟨by omega, ?_⟩
  rcases h with ⟨rfl, rfl⟩ | ⟨g, off, cap, cur, rfl, h1, h2, h3, h4, h5, h6⟩
  · exact .inl ⟨rfl, rfl⟩
  · exact .inr ⟨g, off, cap, cur, rfl, h1, h2, h3, by omega, by omega, by rw [Nat.mul_one]; exact h6⟩
theorem RowAtS.toAt {w : World} {base : Nat} {e : TypeId} {v : Value} {xs : List Value} {n : Nat} (h : RowAtS w base e 1 v n xs) : RowAt w base e v xs := by
  have hl := h.1
  rw [Nat.mul_one] at hl
  subst hl
  rcases h.2 with ⟨rfl, h0⟩ | ⟨g, off, cap, cur, rfl, h1, h2, h3, h4, h5, h6⟩
  · exact .inl ⟨rfl, List.eq_nil_of_length_eq_zero h0⟩
  · exact .inr ⟨g, off, cap, cur, rfl, h1, h2, h3, by omega, h5, by rw [Nat.mul_one] at h6; exact h6⟩
theorem RowAt.slice {w : World} {base : Nat} {e : TypeId} {v : Value} {xs : List Value} (h : RowAt w base e v xs) : ∃ A c, v = .slice A xs.length c := by
  obtain ⟨_, A, c, rfl, _⟩ := h.rowN
  exact ⟨A, c, rfl⟩
theorem cell_grown {w w' : World} {g b o : Nat} {u : Value} (hg : w.grownBy w' (some b)) (hne : g ≠ b) (hc : w.cell? ⟨g, o, none⟩ = some u) : w'.cell? ⟨g, o, none⟩ = some u := by
  have hlt := World.block_lt_of_cell? w _ hc
  have e := hg.block g hlt (fun e => by injection e with e; exact hne e)
  simpa [World.cell?, e] using hc
theorem ItAt.rowed {w w' : World} {base base2 size n : Nat} {x : WIt} {F : Nat → Prop} {t : TypeId} {v : Value} {xs : List Value} (h : ItAt w base x F) (hr : RowAtS w base2 t size v n xs) (hg : w.grownBy w' v.ownBlock) (ht : t ≠ 91 ∧ t ≠ 25 ∧ t ≠ 5) : ItAt w' base x F := by
  rcases hv : v.ownBlock with _ | b
  · rw [hv] at hg
    exact h.frame (G := fun _ => False) (frame_grown hg (fun g hg => by cases hg)) id (fun _ _ => id) (fun _ _ _ _ => id)
  · rw [hv] at hg
    obtain ⟨cur, hb⟩ := hr.blk hv
    exact h.other (frame_one hg) (blk_types hb ht)

theorem keyeq4 (a1 a2 b1 b2 : Nat) (a3 a4 b3 b4 : Int) : decide ((⟨a1, a2, a3, a4⟩ : PKey) = ⟨b1, b2, b3, b4⟩) = (decide (a1 = b1) && decide (a2 = b2) && decide (a3 = b3) && decide (a4 = b4)) := by
  simp only [PKey.mk.injEq, Bool.decide_and, Bool.and_assoc]
set_option maxHeartbeats 1000000 in
theorem isKey_any (gy gb gx : Nat) (k k2 : PKey) (pv pv2 : Value) (fin age fin2 age2 : Int) (w : World) (h : Blk w gy 91 (wCells k pv fin age)) (h2 : Blk w gx 91 (wCells k2 pv2 fin2 age2)) (hb : w.cell? ⟨gb, 0, none⟩ = some (.pointer (some ⟨gx, 0, none⟩))) :
    Calls Try.prog 51 #[ptrV (some gy), .pointer (some ⟨gb, 0, none⟩)] w fun e w' => e = .returned (.bool (decide (k = k2))) ∧ ∃ q', w' = w.drewN q' := by
  obtain ⟨eb, heb⟩ : ∃ eb, decide (k = k2) = eb := ⟨_, rfl⟩
  rw [heb]
  have Heb := hid heb
  clear heb
  obtain ⟨a1, a2, a3, a4⟩ := k
  obtain ⟨b1, b2, b3, b4⟩ := k2
  have c0 : w.cell? ⟨gy, 0, none⟩ = some (.int .u32 (a1 : Int)) := h.cell 0
  have c1 : w.cell? ⟨gy, 1, none⟩ = some (.int .u32 (a2 : Int)) := h.cell 1
  have c2 : w.cell? ⟨gy, 2, none⟩ = some (.int .i64 a3) := h.cell 2
  have c3 : w.cell? ⟨gy, 3, none⟩ = some (.int .i64 a4) := h.cell 3
  have d0 : w.cell? ⟨gx, 0, none⟩ = some (.int .u32 (b1 : Int)) := h2.cell 0
  have d1 : w.cell? ⟨gx, 1, none⟩ = some (.int .u32 (b2 : Int)) := h2.cell 1
  have d2 : w.cell? ⟨gx, 2, none⟩ = some (.int .i64 b3) := h2.cell 2
  have d3 : w.cell? ⟨gx, 3, none⟩ = some (.int .i64 b4) := h2.cell 3
  clear h h2
  unfold ptrV
  go_enter Try.func51, Try.ntmps51
  go_upto_region 1 with (fail)
  by_cases e1 : a1 = b1
  case neg =>
    have f1 : decide ((a1 : Int) = (b1 : Int)) = false := decide_eq_false (by omega)
    have f2 : ((a1 : Int) == (b1 : Int)) = false := by simp; omega
    have f3 : ¬ (a1 : Int) = (b1 : Int) := by omega
    obtain rfl : eb = false := by rw [← Heb.out]; exact decide_eq_false (fun e => e1 (by injection e))
    clear e1
    go_quiet (fail)
    go_wp2
    go_ret
    exact ⟨rfl, _, rfl⟩
  subst e1
  by_cases e1 : a2 = b2
  case neg =>
    have f1 : decide ((a2 : Int) = (b2 : Int)) = false := decide_eq_false (by omega)
    have f2 : ((a2 : Int) == (b2 : Int)) = false := by simp; omega
    have f3 : ¬ (a2 : Int) = (b2 : Int) := by omega
    obtain rfl : eb = false := by rw [← Heb.out]; exact decide_eq_false (fun e => e1 (by injection e))
    clear e1
    go_quiet (fail)
    go_wp2
    go_ret
    exact ⟨rfl, _, rfl⟩
  subst e1
  by_cases e1 : a3 = b3
  case neg =>
    have f1 : decide (a3 = b3) = false := decide_eq_false (by omega)
    have f2 : (a3 == b3) = false := by simp; omega
    obtain rfl : eb = false := by rw [← Heb.out]; exact decide_eq_false (fun e => e1 (by injection e))
    go_quiet (fail)
    go_wp2
    go_ret
    exact ⟨rfl, _, rfl⟩
  subst e1
  by_cases e1 : a4 = b4
  case neg =>
    have f1 : decide (a4 = b4) = false := decide_eq_false (by omega)
    have f2 : (a4 == b4) = false := by simp; omega
    obtain rfl : eb = false := by rw [← Heb.out]; exact decide_eq_false (fun e => e1 (by injection e))
    go_quiet (fail)
    go_wp2
    go_ret
    exact ⟨rfl, _, rfl⟩
  subst e1
  obtain rfl : eb = true := by rw [← Heb.out]; exact decide_eq_true rfl
  go_quiet (fail)
  go_wp2
  go_ret
  exact ⟨rfl, _, rfl⟩

theorem ptr_g {a b : Nat} (h : ptrV (some a) = ptrV (some b)) : a = b := by
  unfold ptrV at h
  injection h with h
  injection h with h
  injection h
/-- does a pointer of the row lead to one of this key? -/
def isK (L : List WIt) (k : PKey) (u : Value) : Bool := L.any fun x => decide (x.w.k = k) && (match u with | .pointer (some a) => decide (a = ⟨x.g, 0, none⟩) | _ => false)
theorem isK_at {L : List WIt} {k : PKey} (ha : L.Pairwise fun x y => x.g ≠ y.g ∧ ∀ k, x.pv.ownBlock = some k → y.pv.ownBlock ≠ some k) {x : WIt} (hx : x ∈ L) : isK L k x.ptr = decide (x.w.k = k) := by
  have key : ∀ y ∈ L, x.g = y.g → x = y := by
    intro y hy e
    induction L with
    | nil => cases hx
    | cons z L ih =>
      rw [List.pairwise_cons] at ha
      rcases List.mem_cons.1 hx with rfl | hx2
      · rcases List.mem_cons.1 hy with rfl | hy
        · rfl
        · exact absurd e (ha.1 y hy).1
      · rcases List.mem_cons.1 hy with rfl | hy
        · exact absurd e.symm (ha.1 x hx2).1
        · exact ih ha.2 hx2 hy
  unfold isK
  by_cases hk : x.w.k = k
  · rw [decide_eq_true hk, List.any_eq_true]
    exact ⟨x, hx, by simp [hk, WIt.ptr, ptrV]⟩
  · rw [decide_eq_false hk, List.any_eq_false]
    intro y hy
    simp only [WIt.ptr, ptrV, Bool.and_eq_true, decide_eq_true_eq, not_and]
    intro e1 e2
    injection e2 with e2
    exact hk (by rw [key y hy e2]; exact e1)
theorem filter_isK {L : List WIt} {k : PKey} (ha : L.Pairwise fun x y => x.g ≠ y.g ∧ ∀ k, x.pv.ownBlock = some k → y.pv.ownBlock ≠ some k) : (L.map WIt.ptr).filter (fun u => !isK L k u) = (L.filter fun y => !decide (y.w.k = k)).map WIt.ptr := by
  rw [List.filter_map]
  congr 1
  refine List.filter_congr fun y hy => ?_
  simp [isK_at ha hy]

/-- what a row is of which those of one key are let go -/
theorem PtsOk.lose {l : List Wt} (h : PtsOk l) (k : PKey) : PtsOk (pLose l k) :=
  ⟨fun x hx => h.it x (List.mem_filter.1 hx).1, ((List.filter_sublist).map _).nodup h.keys, Nat.le_trans (List.length_filter_le _ _) h.len⟩
end Go.Proofs.Ytbjiicnagfeciaa
