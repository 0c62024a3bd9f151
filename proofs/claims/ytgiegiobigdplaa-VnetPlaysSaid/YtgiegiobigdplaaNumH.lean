/- Contracts of the document's chapter 1: High; of Go's slices.Clone of bytes. -/
import Derived.Test.YtgiegiobigdplaaNumS
import Derived.Lib.SliceRun
import Derived.WalkSpells
namespace Go.Proofs.Ytgiegiobigdplaa
open Go Go.RowKit
set_option maxRecDepth 100000

theorem Rows8.alloc {w : World} {v : Value} {rows : List (List UInt8)} (h : Rows8 w v rows) (o : Obj) : Rows8 (w.alloc o) v rows := by
  obtain ⟨vs, h1, h2⟩ := h
  exact ⟨vs, h1.alloc o, fun i x r a b => (h2 i x r a b).alloc o⟩
theorem Rows8.drew {w : World} {v : Value} {rows : List (List UInt8)} (h : Rows8 w v rows) : Rows8 w.drew v rows := h
theorem Rows8.drewN {w : World} {v : Value} {rows : List (List UInt8)} (h : Rows8 w v rows) (n : Nat) : Rows8 (w.drewN n) v rows := h
theorem rows_four {w : World} {e : TypeId} {mk : Nat × Nat} {x y z u : Value} {a b c d : List UInt8} {H : Nat} (h1 : Bs w x a) (h2 : Bs w y b) (h3 : Bs w z c) (h4 : Bs w u d) (hH : H = w.heap.size) :
    Rows8 (w.alloc (.cells #[x, y, z, u] e mk)) (.slice (some ⟨H, 0, none⟩) 4 4) [a, b, c, d] :=
  ⟨[x, y, z, u], row_litm #[x, y, z, u] _ 4 H rfl rfl (by decide) hH, fun i p r g1 g2 => by
    match i with
    | 0 => simp at g1 g2; subst g1; subst g2; exact h1.alloc _
    | 1 => simp at g1 g2; subst g1; subst g2; exact h2.alloc _
    | 2 => simp at g1 g2; subst g1; subst g2; exact h3.alloc _
    | 3 => simp at g1 g2; subst g1; subst g2; exact h4.alloc _
    | i + 4 => simp at g1⟩
theorem rows_three {w : World} {e : TypeId} {mk : Nat × Nat} {x y z : Value} {a b c : List UInt8} {H : Nat} (h1 : Bs w x a) (h2 : Bs w y b) (h3 : Bs w z c) (hH : H = w.heap.size) :
    Rows8 (w.alloc (.cells #[x, y, z] e mk)) (.slice (some ⟨H, 0, none⟩) 3 3) [a, b, c] :=
  ⟨[x, y, z], row_litm #[x, y, z] _ 3 H rfl rfl (by decide) hH, fun i p r g1 g2 => by
    match i with
    | 0 => simp at g1 g2; subst g1; subst g2; exact h1.alloc _
    | 1 => simp at g1 g2; subst g1; subst g2; exact h2.alloc _
    | 2 => simp at g1 g2; subst g1; subst g2; exact h3.alloc _
    | i + 3 => simp at g1⟩
/-- numbers that fit are put -/
theorem put_fits (f : Nat → Nat → List UInt8) (b : List UInt8) (n : Int) (m : Nat) (l : List Nat) (hn : n = m) (hm : okSize n = true) (hl : ∀ x ∈ l, x < 256 ^ m) : putOf f b n l = (b ++ l.flatMap (f m), 0) := by
  subst hn
  have : fitsB m l = true := by
    simp only [fitsB, hm, Bool.true_and, List.all_eq_true, Int.toNat_natCast]
    intro x hx
    have h0 : x / 256 ^ m = 0 := Nat.div_eq_of_lt (hl x hx)
    simp [fitsOne, h0]
  simp [putOf, this]
/-- a literal of bytes that the call owns -/
theorem ownBs_litH {w : World} {base : Nat} {e : TypeId} (cs : Array Value) (bs : List UInt8) (n H : Nat) (hx : cs.toList = bs.map u8v) (hn : bs.length = n) (hm : n ≤ 65536) (hH : H = w.heap.size) (hb : base ≤ H) :
    OwnBs (w.alloc (.cells cs e)) base e (.slice (some ⟨H, 0, none⟩) n n) bs := by
  subst hn; subst hH
  exact ownBs_lit cs bs hx hb hm
theorem clone_any (v : Value) (b : List UInt8) (w : World) (h : Bs w v b) (hsize : b.length ≤ 190000000000000) :
    Calls Try.prog 43 #[v] w fun e w' => ∃ v', e = .returned v' ∧ OwnBs w' w.heap.size 5 v' b ∧ Below w.heap.size w w' := by
  have Hb := hid h
  obtain ⟨A, cap, rfl, k1, k2, k3⟩ := h.cells
  clear h k3
  have qT : ∀ (w : World) (a : Option Addr) (n c n' c' : Nat), (binOp .eql 25 (.slice a n c) (.slice none n' c')).run Try.prog w = .ok (.bool a.isNone) w := fun w a n c n' c' => Lib.run_eql_slice_nil w _ _ a n c n' c' Try.underlying25
  cases A with
  | none =>
    have hb0 : b = [] := by
      obtain ⟨_, _, _, hv, _, _, h3⟩ := Hb.out
      injection hv with e1 _ _
      subst e1
      rcases h3 with h3 | ⟨_, _, h3, _⟩
      · exact List.eq_nil_of_length_eq_zero h3
      · cases h3
    subst hb0
    go_enter Try.func43, Try.ntmps43
    go_wp2
    go_ret
    exact ⟨_, rfl, OwnBs.nil _ _ _, Below.refl _ _⟩
  | some a =>
    go_enter Try.func43, Try.ntmps43
    go_wp2_with (at_builtin; refine wpList_app8 _ rfl _ _ 25 rfl w.heap.size 5 u8ok _ [] rfl (ownBs_lit #[] [] rfl (Nat.le_refl _) (by simp)) _ b rfl (Hb.out.alloc _) (by simp; omega) (by simp) ?_; intro v1 w1 hown1 hb1 hg1 hat1; clear hg1 hat1)
    rw [List.nil_append] at hown1
    go_ret
    exact ⟨_, rfl, hown1, (below_alloc w _).trans hb1⟩
end Go.Proofs.Ytgiegiobigdplaa
