/- A table's Known: the keys, in the order in which they began. -/
import Derived.Test.YtkgeccmpekclcaaDrcO
namespace Go.Proofs.Ytkgeccmpekclcaa
open Go Go.RowKit
attribute [local go_sem ↓] Go.wp_at_zero Go.wp_at_succ
set_option maxRecDepth 100000

def keyZero : Value := .agg #[.int .u32 0, .int .i64 0, .int .u32 0, .int .u32 0, .int .u32 0]
theorem keyinfo3 : (Try.prog.info? 33).map (fun i => (i.zero, i.size, i.bytes)) = some (some keyZero, 5, 32) := by kernel_rfl
theorem keyok : ElemOk Try.prog 44 33 keyZero 5 32 := by
  obtain ⟨i, hi, hz, hs, hb⟩ := info_parts keyinfo3
  exact ⟨Try.underlying44, ⟨i, hi, hz, hs, hb⟩, rfl, by decide, by decide⟩

/-- the cells of keys, one behind the other -/
def keyRow (l : List DCall) : List Value := l.flatMap fun c => c.key.cells
theorem keyRow_snoc (l : List DCall) (c : DCall) : keyRow (l ++ [c]) = keyRow l ++ c.key.cells := by simp [keyRow]

theorem rowKey {w : World} {e : TypeId} (cs : Array Value) (H : Nat) (hn : cs.size = 5) (hH : H = w.heap.size) :
    RowN (w.alloc (.cells cs e)) 5 (.slice (some ⟨H, 0, none⟩) 1 1) 1 cs.toList := rowS_lit 5 cs 1 H (by omega) hH (by simp [maxLen])

set_option maxHeartbeats 2000000 in
theorem knownL_any (base gT n m : Nat) (l : List DCall) (w : World) (h : TabInv w base gT n m l) (hl : l.length ≤ 100000) :
    Calls Try.prog 14 #[ptrV (some gT)] w fun e w' => ∃ v, e = .returned v ∧ w'.ownsRow w.heap.size 33 5 v l.length (keyRow l) ∧ Below w.heap.size w w' := by
  obtain ⟨L, vr, gM, f, rfl, h⟩ := h
  rw [List.length_map] at hl ⊢
  have H := hid h
  obtain ⟨_, A, cap, hv, hk1, hk2, hA⟩ := RowN.of_own h.row
  rw [List.length_map] at hv
  subst hv
  have c1 := h.tab.cell 1
  clear h hk1 hk2 hA
  unfold ptrV
  go_enter Try.func14, Try.ntmps14
  go_wp2
  go_loopw [3, 11] (fun o i wr => ∃ k : Nat, k ≤ L.length ∧ i = .int .i64 k ∧ wr.ownsRow w.heap.size 33 5 o k (keyRow ((L.take k).map DIt.c)) ∧ Below w.heap.size w wr) (fun _ i _ => L.length - (intOf i).toNat)
  case atStart => exact ⟨0, Nat.zero_le _, rfl, World.ownsRow_nil _ _ _ _, Below.refl _ _⟩
  case round =>
    obtain ⟨k, hk, rfl, hown, hbel⟩ := hrel
    by_cases hlt : k < L.length
    · have HT := H.out.keep hbel
      have hrow : RowN wr 1 (.slice A L.length cap) L.length (L.map DIt.ptr) := by have := RowN.of_own HT.row; rwa [List.length_map] at this
      obtain ⟨_, A', cap', hv', _, _, hA⟩ := hrow
      injection hv' with e1 _ e2
      subst e1; subst e2
      obtain ⟨gb, off, rfl, hcell⟩ : ∃ gb off, A = some ⟨gb, off, none⟩ ∧ ∀ i x, (L.map DIt.ptr)[i]? = some x → wr.cell? ⟨gb, off + i, none⟩ = some x := by
        rcases hA with h0 | h0
        · omega
        · exact h0
      have hc := hcell k (ptrV (some L[k].g)) (by rw [List.getElem?_map, List.getElem?_eq_getElem hlt]; rfl)
      have hbk := (HT.it L[k] (List.getElem_mem hlt)).1
      have Hsn := hid (show keyRow ((L.take (k + 1)).map DIt.c) = keyRow ((L.take k).map DIt.c) ++ L[k].c.key.cells by
        rw [List.take_succ_eq_append_getElem hlt, List.map_append, ← keyRow_snoc]; rfl)
      obtain ⟨⟨⟨⟨k1, k2, k3, k4, k5⟩, done, reply⟩, g, rv⟩, hx⟩ : ∃ x, L[k] = x := ⟨_, rfl⟩
      rw [hx] at hc hbk Hsn
      dsimp only [DKey.cells, callCells, ptrV] at hc hbk Hsn
      have d0 := hbk.cell 0
      have d1 := hbk.cell 1
      have d2 := hbk.cell 2
      have d3 := hbk.cell 3
      have d4 := hbk.cell 4
      have hltI : (k : Int) < (L.length : Int) := by omega
      obtain ⟨_, Ao, co, rfl, _, _, _⟩ := RowN.of_own hown
      have Hown := hid hown
      have Hbel := hid hbel
      have hkk : k < 100000 := by omega
      have Hkk := hid hkk
      clear hA hcell hx hbk HT hown hkk
      go_wp2_with (first
        | ((with_reducible show wpList _ _ _ (Oper.mk (some 21) _ _ _ _ _ :: _) _ _); refine wpList_app _ rfl _ _ 44 rfl w.heap.size 33 keyZero 5 32 keyok _ k _ rfl (Hown.out.alloc _) _ 1 [.int .u32 (k1 : Int), .int .i64 k2, .int .u32 (k3 : Int), .int .u32 (k4 : Int), .int .u32 (k5 : Int)] rfl (rowKey #[.int .u32 (k1 : Int), .int .i64 k2, .int .u32 (k3 : Int), .int .u32 (k4 : Int), .int .u32 (k5 : Int)] _ rfl rfl) (by simp [Value.oneCell']) (by have := Hkk.out; omega) (by have := Hkk.out; simp only [maxLen]; omega) (by have := Hbel.out.size; simp; omega) ?_; intro v9 w9 hown9 hg9 hat9; have Hb9 := hid ((Hbel.out.alloc Hbel.out.size (.cells #[.int .u32 (k1 : Int), .int .i64 k2, .int .u32 (k3 : Int), .int .u32 (k4 : Int), .int .u32 (k5 : Int)] 33)).trans (grown_below (Hown.out.alloc _) (by have := Hbel.out.size; simp; omega) hg9)); have Hown9 := hid hown9; clear hat9 hown9 hg9))
      refine ⟨⟨k + 1, by omega, val_int (by omega), ?_, Hb9.out⟩, by simp [intOf]; omega⟩
      rw [Hsn.out]
      exact Hown9.out
    · have : k = L.length := by omega
      subst this
      have hltI : ¬ (L.length : Int) < (L.length : Int) := by omega
      rw [List.take_length] at hown
      go_wp2
      go_ret
      exact ⟨_, rfl, hown, hbel⟩
end Go.Proofs.Ytkgeccmpekclcaa
