/- What packets that wait for parts are in memory; New, Waiting. -/
import Derived.Test.YtbjiicnagfeciaaPtS
import Derived.Test.YtbjiicnagfeciaaNumH
import Derived.Test.YtbjiicnagfeciaaFrame
import Derived.Test.YtbjiicnagfeciaaMapOf
import Derived.DeepKeys4
import Derived.Deep.DrawnRows
import Derived.Deep.RegionHeld3
import Derived.Shelf.Abstract
import Derived.Deep.LoopGhost
import Derived.BigQuiet
import Derived.Deep.QuietTactic
import Derived.Lib.SliceRun
import Derived.Deep.RegionLaw
import Derived.Deep.Cut
namespace Go.Proofs.Ytbjiicnagfeciaa
open Go Go.RowKit
open Go.Maps (Keyed)
attribute [local go_sem ↓] Go.wp_at_zero Go.wp_at_succ
set_option maxRecDepth 100000

theorem PKey.cells_inj {a b : PKey} (h : a.cells = b.cells) : a = b := by
  obtain ⟨a1, a2, a3, a4⟩ := a
  obtain ⟨b1, b2, b3, b4⟩ := b
  simp only [PKey.cells, List.cons.injEq, Value.int.injEq, true_and, and_true] at h
  obtain ⟨h1, h2, h3, h4⟩ := h
  congr 1 <;> omega
theorem PKey.val_inj {a b : PKey} (h : a.val = b.val) : a = b := by
  unfold PKey.val at h
  injection h with h
  exact PKey.cells_inj (by simpa using congrArg Array.toList h)
theorem pkeyed : Keyed Try.prog 87 := Keyed.of_law (deep_law_laid (by kernel_rfl) (m := 20) (by decide) (of_decide_eq_true (by kernel_rfl)) (by kernel_rfl) (by kernel_rfl))
theorem wf_u32 (n : Nat) (h : n < 4294967296) : (Lit.int .u32 (n : Int)).wf = true := by
  simp [Lit.wf, IntKind.min, IntKind.max, IntKind.bits, IntKind.signed]; omega
theorem wf_i64 (n : Int) (h : -9223372036854775808 ≤ n) (h2 : n ≤ 9223372036854775807) : (Lit.int .i64 n).wf = true := by
  simp [Lit.wf, IntKind.min, IntKind.max, IntKind.bits, IntKind.signed]; omega
theorem klit_u32 (d : Nat) (n : Nat) (h : n < 4294967296) : Try.prog.keyLits (d + 1) 22 [.int .u32 (n : Int)] = some [.int .u32 (n : Int)] := by
  unfold Program.keyLits
  rw [Try.underlying22]
  simp [wf_u32 n h]
theorem klit_int (d : Nat) (n : Int) (h : -9223372036854775808 ≤ n) (h2 : n ≤ 9223372036854775807) : Try.prog.keyLits (d + 1) 3 [.int .i64 n] = some [.int .i64 n] := by
  unfold Program.keyLits
  rw [Try.underlying3]
  simp [wf_i64 n h h2]
theorem pkey_of (k : PKey) (h : k.Ok) : ∃ kl, keyOf Try.prog 87 k.val = some kl := by
  have h1 : Try.prog.keyType 87 = true := by kernel_rfl
  have h2 : Try.prog.cellsOf 87 = 4 := by kernel_rfl
  have h3 : Try.prog.cellsOf 22 = 1 := by kernel_rfl
  have h4 : Try.prog.cellsOf 3 = 1 := by kernel_rfl
  obtain ⟨d, hd⟩ : ∃ d, Try.prog.types.size = d + 1 := ⟨Try.prog.types.size - 1, by kernel_rfl⟩
  unfold keyOf PKey.val
  rw [Try.underlying87]
  simp only [h1, Value.formed, Try.underlying87, h2, hd]
  unfold Program.keyLits
  rw [Try.underlying87]
  simp [h2, h3, h4, PKey.cells, Value.cells, klit_u32 d _ h.src, klit_u32 d _ h.dst, klit_int d _ h.plo h.phi, klit_int d _ h.ilo h.ihi]

theorem Blk.ne {w : World} {g g' : Nat} {t t' : TypeId} {xs xs' : List Value} (h : Blk w g t xs) (h' : Blk w g' t' xs') (ht : t ≠ t') : g ≠ g' := by
  intro e
  subst e
  unfold Blk at h h'
  rw [h] at h'
  injection h' with h'
  injection h' with _ h2
  exact ht h2
theorem MapIs.ne {P : Program} {k : TypeId} {w : World} {b n g : Nat} {f : Value → Option Nat} {t : TypeId} {xs : List Value} (h : MapIs P k w b n f) (h' : Blk w g t xs) : b ≠ g := by
  intro e
  subst e
  obtain ⟨es, clock, hm⟩ := h.isMap
  unfold Blk at h'
  rw [hm] at h'
  injection h' with h'
  cases h'
theorem RowAtS.blk {w : World} {base size n k : Nat} {e : TypeId} {v : Value} {xs : List Value} (h : RowAtS w base e size v n xs) (hk : v.ownBlock = some k) : ∃ cur, Blk w k e cur := by
  rcases h.2 with ⟨rfl, _⟩ | ⟨g, off, cap, cur, rfl, _, hb, _⟩
  · simp [Value.ownBlock] at hk
  · simp [Value.ownBlock] at hk
    subst hk
    exact ⟨cur, hb⟩
theorem own_blkS {w : World} {base size n k : Nat} {e : TypeId} {v : Value} {xs : List Value} (h : w.ownsRow base e size v n xs) (hk : v.ownBlock = some k) : ∃ cur, Blk w k e cur :=
  (RowAtS.of_own h).blk hk
theorem own_at {w : World} {base size n k : Nat} {e : TypeId} {v : Value} {xs : List Value} (h : w.ownsRow base e size v n xs) (hk : v.ownBlock = some k) : base ≤ k ∧ k < w.heap.size :=
  (RowAtS.of_own h).lt hk

/-- one that waits, and where it lies: its block, its parts' slice, their bodies -/
structure WIt where
  w : Wt
  g : Nat
  pv : Value
  qs : List (Pk × Value)
def WIt.ptr (x : WIt) : Value := ptrV (some x.g)
def wCells (k : PKey) (pv : Value) (fin age : Int) : List Value := [.int .u32 (k.src : Int), .int .u32 (k.dst : Int), .int .i64 k.proto, .int .i64 k.id, pv, .int .i64 fin, .int .i64 age]
structure ItAt (w : World) (base : Nat) (x : WIt) (F : Nat → Prop) : Prop where
  blk : Blk w x.g 91 (wCells x.w.k x.pv x.w.fin x.w.age)
  row : RowAtS w base 25 9 x.pv x.qs.length (pkRow x.qs)
  bod : Bodies w base 5 x.qs
  fst : x.qs.map Prod.fst = x.w.parts
  fg : F x.g
  fp : ∀ k, x.pv.ownBlock = some k → F k
  fb : ∀ q ∈ x.qs, ∀ k, q.2.ownBlock = some k → F k
theorem ItAt.frame {w w' : World} {base : Nat} {x : WIt} {F G : Nat → Prop} (h : ItAt w base x F) (hf : Frame G w w') (h1 : ¬ G x.g) (h2 : ∀ k, x.pv.ownBlock = some k → ¬ G k) (h3 : ∀ q ∈ x.qs, ∀ k, q.2.ownBlock = some k → ¬ G k) : ItAt w' base x F where
  blk := hf.blk h.blk h1
  row := h.row.same fun k hk => hf.block k (h.row.lt hk).2 (h2 k hk)
  bod q hq := hf.own (h.bod q hq) (h3 q hq)
  fst := h.fst
  fg := h.fg
  fp := h.fp
  fb := h.fb
theorem ItAt.keep {w w' : World} {base : Nat} {x : WIt} {F : Nat → Prop} (h : ItAt w base x F) (hb : Below w.heap.size w w') : ItAt w' base x F :=
  h.frame (G := fun _ => False) (Below.frameF hb _) id (fun _ _ => id) (fun _ _ _ _ => id)
theorem ItAt.weaken {w : World} {base : Nat} {x : WIt} {F F' : Nat → Prop} (h : ItAt w base x F) (hF : ∀ k, F k → F' k) : ItAt w base x F' :=
  ⟨h.blk, h.row, h.bod, h.fst, hF _ h.fg, fun k hk => hF _ (h.fp k hk), fun q hq k hk => hF _ (h.fb q hq k hk)⟩
theorem ItAt.mono {w : World} {base base' : Nat} {x : WIt} {F : Nat → Prop} (h : ItAt w base x F) (hb : base' ≤ base) : ItAt w base' x F :=
  ⟨h.blk, h.row.mono hb, fun q hq => (h.bod q hq).mono hb, h.fst, h.fg, h.fp, h.fb⟩
/-- a write into a block of none of its types -/
theorem ItAt.other {w w' : World} {base : Nat} {x : WIt} {F : Nat → Prop} (h : ItAt w base x F) {b : Nat} (hf : Frame (· = b) w w') (hb : ∀ t xs, Blk w b t xs → t ≠ 91 ∧ t ≠ 25 ∧ t ≠ 5) : ItAt w' base x F := by
  refine h.frame hf (fun e => ?_) (fun k hk e => ?_) (fun q hq k hk e => ?_)
  · subst e; exact (hb _ _ h.blk).1 rfl
  · subst e; obtain ⟨cur, hc⟩ := h.row.blk hk; exact (hb _ _ hc).2.1 rfl
  · subst e; obtain ⟨cur, hc⟩ := own_blkS (h.bod q hq) hk; exact (hb _ _ hc).2.2 rfl
theorem blk_types {w : World} {b : Nat} {t0 : TypeId} {ys : List Value} (h : Blk w b t0 ys) (h0 : t0 ≠ 91 ∧ t0 ≠ 25 ∧ t0 ≠ 5) : ∀ t xs, Blk w b t xs → t ≠ 91 ∧ t ≠ 25 ∧ t ≠ 5 := by
  intro t xs hb
  unfold Blk at h hb
  rw [h] at hb
  injection hb with hb
  injection hb with _ hb
  subst hb
  exact h0
theorem map_types {P : Program} {k : TypeId} {w : World} {b n : Nat} {f : Value → Option Nat} (h : MapIs P k w b n f) : ∀ t xs, Blk w b t xs → t ≠ 91 ∧ t ≠ 25 ∧ t ≠ 5 :=
  fun _ _ hb => absurd rfl (h.ne hb)
theorem frame_one {w w' : World} {b : Nat} (h : w.grownBy w' (some b)) : Frame (· = b) w w' := frame_grown h (fun g hg => by injection hg with hg; exact hg.symm)

structure PtAt (w : World) (base g : Nat) (L : List WIt) (m : Nat) (vr : Value) (gM : Nat) (f : Value → Option Nat) (F : Nat → Prop) : Prop where
  tab : Blk w g 84 [vr, .map (some gM)]
  row : RowAtS w base 88 1 vr L.length (L.map WIt.ptr)
  map : MapIs Try.prog 87 w gM m f
  it : ∀ x ∈ L, ItAt w base x F
  apart : L.Pairwise fun x y => x.g ≠ y.g ∧ ∀ k, x.pv.ownBlock = some k → y.pv.ownBlock ≠ some k
  hit : ∀ x ∈ L, f x.w.k.val = some x.g
  miss : ∀ k : PKey, (∀ x ∈ L, x.w.k ≠ k) → f k.val = none
  ok : PtsOk (L.map WIt.w)
  few : ∀ x ∈ L, x.qs.length ≤ m
  fg : F g
  fM : F gM
  fr : ∀ k, vr.ownBlock = some k → F k
  flt : ∀ k, F k → base ≤ k ∧ k < w.heap.size
/-- packets that wait for parts, in block g; F: their blocks; at most m were added -/
def PtInv (w : World) (base g : Nat) (l : List Wt) (m : Nat) (F : Nat → Prop) : Prop := ∃ L vr gM f, L.map WIt.w = l ∧ PtAt w base g L m vr gM f F
theorem PtAt.same {w w' : World} {base g : Nat} {L : List WIt} {m : Nat} {vr : Value} {gM : Nat} {f : Value → Option Nat} {F : Nat → Prop} (h : PtAt w base g L m vr gM f F) {G : Nat → Prop} (hf : Frame G w w') (hd : ∀ k, F k → ¬ G k) : PtAt w' base g L m vr gM f F where
  tab := hf.blk h.tab (hd _ h.fg)
  row := h.row.same fun k hk => hf.block k (h.row.lt hk).2 (hd _ (h.fr k hk))
  map := h.map.block (hf.block gM h.map.lt (hd _ h.fM))
  it x hx := (h.it x hx).frame hf (hd _ (h.it x hx).fg) (fun k hk => hd _ ((h.it x hx).fp k hk)) (fun q hq k hk => hd _ ((h.it x hx).fb q hq k hk))
  apart := h.apart
  hit := h.hit
  miss := h.miss
  ok := h.ok
  few := h.few
  fg := h.fg
  fM := h.fM
  fr := h.fr
  flt := fun k hk => ⟨(h.flt k hk).1, Nat.lt_of_lt_of_le (h.flt k hk).2 hf.size⟩
theorem PtAt.keep {w w' : World} {base g : Nat} {L : List WIt} {m : Nat} {vr : Value} {gM : Nat} {f : Value → Option Nat} {F : Nat → Prop} (h : PtAt w base g L m vr gM f F) (hb : Below w.heap.size w w') : PtAt w' base g L m vr gM f F :=
  h.same (G := fun _ => False) (Below.frameF hb _) (fun _ _ => id)
theorem PtInv.frame {w w' : World} {base g : Nat} {l : List Wt} {m : Nat} {F G : Nat → Prop} (h : PtInv w base g l m F) (hf : Frame G w w') (hd : ∀ k, F k → ¬ G k) : PtInv w' base g l m F := by
  obtain ⟨L, vr, gM, f, e, h⟩ := h
  exact ⟨L, vr, gM, f, e, h.same hf hd⟩
theorem PtInv.keep {w w' : World} {base g : Nat} {l : List Wt} {m : Nat} {F : Nat → Prop} (h : PtInv w base g l m F) (hb : Below w.heap.size w w') : PtInv w' base g l m F := by
  obtain ⟨L, vr, gM, f, e, h⟩ := h
  exact ⟨L, vr, gM, f, e, h.keep hb⟩
theorem PtInv.lt {w : World} {base g : Nat} {l : List Wt} {m : Nat} {F : Nat → Prop} (h : PtInv w base g l m F) (k : Nat) (hk : F k) : base ≤ k ∧ k < w.heap.size := by
  obtain ⟨L, vr, gM, f, e, h⟩ := h
  exact h.flt k hk
theorem PtInv.ok {w : World} {base g : Nat} {l : List Wt} {m : Nat} {F : Nat → Prop} (h : PtInv w base g l m F) : PtsOk l := by
  obtain ⟨L, vr, gM, f, e, h⟩ := h
  subst e
  exact h.ok

theorem pnew_any (w : World) : Calls Try.prog 20 #[] w fun e w' => ∃ g F, e = .returned (.pointer (some ⟨g, 0, none⟩)) ∧ PtInv w' w.heap.size g [] 0 F ∧ Below w.heap.size w w' := by
  have hmm := @run_makeMap Try.prog
  go_enter Try.func20, Try.ntmps20
  go_wp2_with fail
  go_ret
  have hb0 := below_alloc' (below_alloc w (.map #[] 0)) (.cells #[.slice none 0 0, .map (some w.heap.size)] 84)
  refine ⟨w.heap.size + 1, fun k => k = w.heap.size + 1 ∨ k = w.heap.size, rfl, ⟨[], .slice none 0 0, w.heap.size, fun _ => none, rfl, ?_⟩, hb0⟩
  have hb := Blk.new (w.alloc (.map #[] 0)) 84 #[.slice none 0 0, .map (some w.heap.size)]
  rw [World.size_alloc] at hb
  exact ⟨hb, RowAtS.nil _ _ _ _, (MapIs.made Try.prog 87 w).keep (below_alloc _ _), fun x hx => (by cases hx), List.Pairwise.nil, fun x hx => (by cases hx), fun _ _ => rfl, ⟨fun x hx => (by cases hx), List.nodup_nil, by simp⟩, fun x hx => (by cases hx), .inl rfl, .inr rfl, fun k hk => (by simp [Value.ownBlock] at hk), fun k hk => by simp only [World.size_alloc]; omega⟩

theorem waits_any (base g : Nat) (l : List Wt) (m : Nat) (F : Nat → Prop) (w : World) (h : PtInv w base g l m F) :
    Calls Try.prog 29 #[.pointer (some ⟨g, 0, none⟩)] w fun e w' => e = .returned (.int .i64 (l.length : Int)) ∧ Below w.heap.size w w' := by
  obtain ⟨L, vr, gM, f, rfl, h⟩ := h
  have c0 : w.cell? ⟨g, 0, none⟩ = some vr := h.tab.cell 0
  obtain ⟨_, A, cap, rfl, _, _, _⟩ := h.row.rowN
  clear h
  rw [List.length_map]
  go_enter Try.func29, Try.ntmps29
  go_wp2_with fail
  go_ret
  exact ⟨rfl, Below.refl _ _⟩
end Go.Proofs.Ytbjiicnagfeciaa
