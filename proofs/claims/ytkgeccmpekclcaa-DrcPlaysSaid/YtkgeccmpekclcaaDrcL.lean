/- One of the calls of a table is let go. -/
import Derived.Test.YtkgeccmpekclcaaDrcK
namespace Go.Proofs.Ytkgeccmpekclcaa
open Go Go.RowKit
attribute [local go_sem ↓] Go.wp_at_zero Go.wp_at_succ
set_option maxRecDepth 100000

theorem mem_erase {L : List DIt} {i : Nat} (hi : i < L.length) (hk : (L.map fun x => x.c.key).Nodup) {x : DIt} (hx : x ∈ L.eraseIdx i) : x ∈ L ∧ x.c.key ≠ L[i].c.key := by
  obtain ⟨j, hj, hne, rfl⟩ := List.mem_eraseIdx_iff_getElem.1 hx
  refine ⟨List.getElem_mem hj, fun e => hne ?_⟩
  exact (List.getElem_inj (xs := L.map fun x => x.c.key) (i := j) (j := i) (h₀ := by simpa using hj) (h₁ := by simpa using hi) hk).1 (by simpa using e)
theorem erase_mem {L : List DIt} {i : Nat} (hi : i < L.length) {x : DIt} (hx : x ∈ L) : x = L[i] ∨ x ∈ L.eraseIdx i := by
  obtain ⟨j, hj, rfl⟩ := List.mem_iff_getElem.1 hx
  by_cases e : j = i
  · subst e; exact .inl rfl
  · exact .inr (List.mem_eraseIdx_iff_getElem.2 ⟨j, hj, e, rfl⟩)
theorem TabAt.erase {w w' : World} {base gT n m : Nat} {L : List DIt} {vr vr' : Value} {gM : Nat} {f : Value → Option Nat} (h : TabAt w base gT n m L vr gM f) (i : Nat) (hi : i < L.length)
    (tab : Blk w' gT 62 [.int .i64 (n : Int), vr', .map (some gM)]) (row : w'.ownsRow base 63 1 vr' ((L.map DIt.ptr).eraseIdx i).length ((L.map DIt.ptr).eraseIdx i)) (it : Its w' base L) (map : MapIs Try.prog 33 w' gM m (upd f L[i].c.key.val none)) :
    TabAt w' base gT n m (L.eraseIdx i) vr' gM (upd f L[i].c.key.val none) := by
  have e : ∀ {β : Type} (F : DIt → β), (L.eraseIdx i).map F = (L.map F).eraseIdx i := fun F => by rw [List.eraseIdx_eq_take_drop_succ, List.eraseIdx_eq_take_drop_succ, List.map_append, List.map_take, List.map_drop]
  refine ⟨tab, h.tabB, by rw [e]; exact row, ?_, fun x hx => it x (mem_erase hi h.keys hx).1, map, h.mapB, fun x hx => ?_, fun k hk => ?_, ?_, fun x hx => h.oks x (mem_erase hi h.keys hx).1⟩
  · rw [e]; exact h.nodup.sublist (List.eraseIdx_sublist _ _)
  · obtain ⟨q1, q2⟩ := mem_erase hi h.keys hx
    unfold upd
    rw [if_neg (fun e => q2 (val_inj e))]
    exact h.hit x q1
  · unfold upd
    by_cases ek : k.val = L[i].c.key.val
    · rw [if_pos ek]
    · rw [if_neg ek]
      refine h.miss k fun x hx hxk => ?_
      rcases erase_mem hi hx with rfl | hx'
      · exact ek (by rw [hxk])
      · exact hk x hx' hxk
  · rw [e]; exact h.keys.sublist (List.eraseIdx_sublist _ _)
end Go.Proofs.Ytkgeccmpekclcaa
