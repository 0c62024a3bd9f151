/- slices.IndexFunc at a row of pointers; the two predicates of a table of calls. -/
import Derived.Test.YtkgeccmpekclcaaDrcA
import Derived.Test.YtkgeccmpekclcaaMapOf
import Derived.Deep.RegionHeld3
import Derived.Deep.DrawnRows
import Derived.Shelf.Abstract
import Derived.Deep.LoopGhost
import Derived.BigQuiet
import Derived.Deep.QuietTactic
namespace Go.Proofs.Ytkgeccmpekclcaa
open Go Go.RowKit
attribute [local go_sem ↓] Go.wp_at_zero Go.wp_at_succ
set_option maxRecDepth 100000

/-- the first place below n of which p holds; -1: none -/
def fidx (p : Nat → Bool) : Nat → Option Nat
  | 0 => none
  | n + 1 => match fidx p n with
    | some i => some i
    | none => if p n then some n else none
def idxI : Option Nat → Int
  | none => -1
  | some i => (i : Int)
theorem fidx_none {p : Nat → Bool} {n : Nat} (h : ∀ j, j < n → p j = false) : fidx p n = none := by
  induction n with
  | zero => rfl
  | succ n ih => simp [fidx, ih fun j hj => h j (by omega), h n (by omega)]
theorem fidx_le {p : Nat → Bool} {k : Nat} (hp : p k = true) (h : ∀ j, j < k → p j = false) (n : Nat) (hn : k < n) : fidx p n = some k := by
  induction n with
  | zero => omega
  | succ n ih =>
    by_cases e : k = n
    · subst e
      simp [fidx, fidx_none h, hp]
    · simp [fidx, ih (by omega)]

/-- what is asked of a predicate that only reads -/
def PredRead (P : Program) (g : Nat) (lb : Array Value) (vs : List Value) (p : Nat → Bool) (w : World) : Prop :=
  ∀ (q i : Nat) (hi : i < vs.length), Calls P g (#[vs[i]] ++ lb) (w.drewN q) fun e w' => e = .returned (.bool (p i)) ∧ ∃ q', w' = w.drewN q'

theorem idx_any (g : Nat) (lb : Array Value) (eg : ∀ args w, (callFunc g args).run Try.prog w = .ok (.enter g args) w) (v : Value) (vs : List Value) (p : Nat → Bool) (w : World) (n : Nat) (h : RowN w 1 v n vs) (hp : PredRead Try.prog g lb vs p w) :
    Calls Try.prog 18 #[v, .func (.func g) #[] lb] w fun e w' => e = .returned (.int .i64 (idxI (fidx p n))) ∧ ∃ q, w' = w.drewN q := by
  obtain ⟨hl, A, cap, rfl, k1, k2, hc⟩ := h
  have hln : vs.length = n := by omega
  have hn2 : n ≤ 9223372036854775807 := by simp only [maxLen] at k2; omega
  have Hp := hid hp
  clear hp
  go_enter Try.func18, Try.ntmps18
  go_wp2
  go_loopg [5, 8] n (fun gg _ s8 wr => ∃ kk q : Nat, kk ≤ n ∧ n - kk ≤ gg ∧ s8 = .int .i64 kk ∧ wr = w.drewN q ∧ Hid (∀ j, j < kk → p j = false))
  case atStart => exact ⟨0, 0, Nat.zero_le _, by omega, rfl, rfl, hid fun j hj => absurd hj (Nat.not_lt_zero _)⟩
  case round =>
    obtain ⟨kk, q, hkk, hg, rfl, rfl, A1⟩ := hrel
    by_cases hlt : kk < n
    · have hltz : (kk : Int) < (n : Int) := by omega
      obtain ⟨gb, off, rfl, hcell⟩ : ∃ gb off, A = some ⟨gb, off, none⟩ ∧ ∀ i x, vs[i]? = some x → w.cell? ⟨gb, off + i, none⟩ = some x := by
        rcases hc with h0 | h0
        · omega
        · exact h0
      have hl2 : w.cell? ⟨gb, off + kk, none⟩ = some (vs[kk]'(by omega)) := hcell kk _ (List.getElem?_eq_getElem (by omega))
      have hcall := Hp.out q kk (by omega)
      clear hcell hc
      obtain ⟨u, hu⟩ : ∃ u, vs[kk]'(by omega) = u := ⟨_, rfl⟩
      rw [hu] at hl2 hcall
      have Hu := hid hu
      clear hu
      cases hq : p kk with
      | true =>
        rw [hq] at hcall
        go_wp2_with (go_at_fn g; refine hcall.mono ?_; rintro e w' ⟨rfl, q', rfl⟩)
        go_ret
        refine ⟨?_, q', rfl⟩
        rw [fidx_le hq A1.out n hlt]
        rfl
      | false =>
        rw [hq] at hcall
        go_wp2_with (go_at_fn g; refine hcall.mono ?_; rintro e w' ⟨rfl, q', rfl⟩)
        go_roundg (n - (kk + 1))
        case measure => omega
        case rel =>
          refine ⟨kk + 1, q', by omega, by omega, val_int (by omega), rfl, hid fun j hj => ?_⟩
          by_cases e : j = kk
          · subst e; exact hq
          · exact A1.out j (by omega)
    · have hltz : ¬ (kk : Int) < (n : Int) := by omega
      have : kk = n := by omega
      subst this
      go_wp2
      go_ret
      refine ⟨?_, q, rfl⟩
      rw [fidx_none A1.out]
      rfl
end Go.Proofs.Ytkgeccmpekclcaa
