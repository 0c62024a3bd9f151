/- What stays of a table while other blocks turn; a call is put behind those that are known. -/
import Derived.Test.YtkgeccmpekclcaaDrcI
namespace Go.Proofs.Ytkgeccmpekclcaa
open Go Go.RowKit
attribute [local go_sem ↓] Go.wp_at_zero Go.wp_at_succ
set_option maxRecDepth 100000

/-- the blocks of the types S stay -/
def KeepsT (w w' : World) (S : TypeId → Prop) : Prop := ∀ (k : Nat) (cs : Array Value) (t : TypeId) (mk : Nat × Nat), w.heap[k]? = some (.cells cs t mk) → S t → w'.heap[k]? = some (.cells cs t mk)
theorem KeepsT.blk {w w' : World} {S : TypeId → Prop} (h : KeepsT w w' S) {g : Nat} {t : TypeId} {xs : List Value} (hb : Blk w g t xs) (ht : S t) : Blk w' g t xs := h g _ t _ hb ht
theorem KeepsT.row {w w' : World} {S : TypeId → Prop} (h : KeepsT w w' S) {base size n : Nat} {e : TypeId} {v : Value} {xs : List Value} (hr : w.ownsRow base e size v n xs) (ht : S e) : w'.ownsRow base e size v n xs := by
  refine ⟨hr.1, ?_⟩
  rcases hr.2 with q | ⟨g, cap, cur, q1, q2, q3, q4⟩
  · exact .inl q
  · exact .inr ⟨g, cap, cur, q1, q2, h g _ _ _ q3 ht, q4⟩
theorem KeepsT.trans {a b c : World} {S : TypeId → Prop} (h : KeepsT a b S) (k : KeepsT b c S) : KeepsT a c S := fun i cs t mk hi ht => k i cs t mk (h i cs t mk hi ht) ht
theorem KeepsT.weak {a b : World} {S S' : TypeId → Prop} (h : KeepsT a b S) (hs : ∀ t, S' t → S t) : KeepsT a b S' := fun i cs t mk hi ht => h i cs t mk hi (hs t ht)
theorem Below.keepsT {w w' : World} (h : Below w.heap.size w w') (S : TypeId → Prop) : KeepsT w w' S := fun k _ _ _ hk _ => (h.block k (Array.getElem?_eq_some_iff.1 hk).1).trans hk
theorem store_keepsT {w w' : World} {g : Nat} {t : TypeId} {xs : List Value} (h : w.grownBy w' (some g)) (hb : Blk w g t xs) : KeepsT w w' (· ≠ t) := by
  intro k cs t' mk hk ht
  refine (h.block k (Array.getElem?_eq_some_iff.1 hk).1 ?_).trans hk
  intro q
  injection q with q
  subst q
  unfold Blk at hb
  rw [hk] at hb
  injection hb with hb
  injection hb with _ hb
  exact ht hb
theorem app_keepsT {w w' : World} {base size n : Nat} {e : TypeId} {v : Value} {xs : List Value} (ho : w.ownsRow base e size v n xs) (h : w.grownBy w' v.ownBlock) : KeepsT w w' (· ≠ e) := by
  intro k cs t' mk hk ht
  refine (h.block k (Array.getElem?_eq_some_iff.1 hk).1 ?_).trans hk
  rcases ho.2 with ⟨rfl, _⟩ | ⟨g2, cap, cur, rfl, _, hh, _⟩
  · simp [Value.ownBlock]
  · simp only [Value.ownBlock, ne_eq, Option.some.injEq]
    intro q
    subst q
    rw [hk] at hh
    injection hh with hh
    injection hh with _ hh
    exact ht hh
theorem map_keepsT {P : Program} {kt : TypeId} {w w' : World} {b n : Nat} {f : Value → Option Nat} (hm : MapIs P kt w b n f) (h : w.grownBy w' (some b)) (S : TypeId → Prop) : KeepsT w w' S := by
  intro k cs t' mk hk ht
  refine (h.block k (Array.getElem?_eq_some_iff.1 hk).1 ?_).trans hk
  intro q
  injection q with q
  subst q
  obtain ⟨es, clock, hm⟩ := hm.isMap
  rw [hm] at hk
  cases hk
theorem MapIs.app {P : Program} {kt : TypeId} {w w' : World} {b m base size n : Nat} {f : Value → Option Nat} {e : TypeId} {v : Value} {xs : List Value} (hm : MapIs P kt w b m f) (ho : w.ownsRow base e size v n xs) (h : w.grownBy w' v.ownBlock) : MapIs P kt w' b m f := by
  refine hm.block (h.block b hm.lt ?_)
  rcases ho.2 with ⟨rfl, _⟩ | ⟨g2, cap, cur, rfl, _, hh, _⟩
  · simp [Value.ownBlock]
  · simp only [Value.ownBlock, ne_eq, Option.some.injEq]
    intro q
    subst q
    obtain ⟨es, clock, hm⟩ := hm.isMap
    rw [hm] at hh
    cases hh
theorem MapIs.store {P : Program} {kt : TypeId} {w w' : World} {b m g : Nat} {f : Value → Option Nat} {t : TypeId} {xs : List Value} (hm : MapIs P kt w b m f) (hb : Blk w g t xs) (h : w.grownBy w' (some g)) : MapIs P kt w' b m f :=
  hm.block (h.block b hm.lt (fun e => by injection e with e; exact hm.ne hb e))
/-- the calls of a table, each with its reply -/
def Its (w : World) (base : Nat) (L : List DIt) : Prop := ∀ x ∈ L, Blk w x.g 65 (callCells x.c.key x.c.done x.rv) ∧ base ≤ x.g ∧ OwnBs w base 5 x.rv x.c.reply
theorem Its.keeps {w w' : World} {base : Nat} {L : List DIt} {S : TypeId → Prop} (h : Its w base L) (hk : KeepsT w w' S) (h1 : S 65) (h2 : S 5) : Its w' base L := fun x hx =>
  ⟨hk.blk (h x hx).1 h1, (h x hx).2.1, hk.row (h x hx).2.2 h2⟩

theorem val_inj {a b : DKey} (h : a.val = b.val) : a = b := by
  unfold DKey.val at h
  injection h with h
  exact DKey.cells_inj (by simpa using h)
/-- a new call behind the others: all its parts at hand -/
theorem TabAt.push {w : World} {base gT n m H : Nat} {L : List DIt} {vr : Value} {gM : Nat} {f : Value → Option Nat} {k : DKey}
    (tab : Blk w gT 62 [.int .i64 (n : Int), vr, .map (some gM)]) (tabB : base ≤ gT) (row : w.ownsRow base 63 1 vr (L.length + 1) (L.map DIt.ptr ++ [ptrV (some H)])) (nodup : (L.map DIt.g).Nodup) (hH : H ∉ L.map DIt.g) (hHb : base ≤ H)
    (it : Its w base L) (new : Blk w H 65 (callCells k false (.slice none 0 0))) (map : MapIs Try.prog 33 w gM m (upd f k.val (some H))) (mapB : base ≤ gM) (hit : ∀ x ∈ L, f x.c.key.val = some x.g) (miss : ∀ k : DKey, (∀ x ∈ L, x.c.key ≠ k) → f k.val = none)
    (keys : (L.map fun x => x.c.key).Nodup) (oks : ∀ x ∈ L, x.c.key.Ok) (hk : k.Ok) (hkn : ∀ x ∈ L, x.c.key ≠ k) :
    TabAt w base gT n m (L ++ [⟨⟨k, false, []⟩, H, .slice none 0 0⟩]) vr gM (upd f k.val (some H)) := by
  refine ⟨tab, tabB, ?_, ?_, fun x hx => ?_, map, mapB, fun x hx => ?_, fun k' hk' => ?_, ?_, fun x hx => ?_⟩
  · rw [List.map_append, List.length_append, List.length_map]; exact row
  · rw [List.map_append]
    exact List.nodup_append.2 ⟨nodup, by simp, fun a ha b hb' e => by simp at hb'; subst hb'; subst e; exact hH ha⟩
  · rcases List.mem_append.1 hx with hx | hx
    · exact it x hx
    · simp at hx; subst hx; exact ⟨new, hHb, OwnBs.nil _ _ _⟩
  · rcases List.mem_append.1 hx with hx | hx
    · unfold upd; rw [if_neg (fun e => hkn x hx (val_inj e))]; exact hit x hx
    · simp at hx; subst hx; unfold upd; rw [if_pos rfl]
  · unfold upd
    rw [if_neg (fun e => hk' _ (List.mem_append_right L (List.mem_singleton_self _)) (val_inj e).symm)]
    exact miss k' fun x hx => hk' x (List.mem_append_left _ hx)
  · rw [List.map_append]
    exact List.nodup_append.2 ⟨keys, by simp, fun a ha b hb' e => by
      simp at hb'; subst hb'; subst e
      obtain ⟨x, hx, hxe⟩ := List.mem_map.1 ha
      exact hkn x hx hxe⟩
  · rcases List.mem_append.1 hx with hx | hx
    · exact oks x hx
    · simp at hx; subst hx; exact hk
end Go.Proofs.Ytkgeccmpekclcaa
