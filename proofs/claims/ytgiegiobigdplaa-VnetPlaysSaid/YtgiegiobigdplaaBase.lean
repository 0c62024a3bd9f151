/- What a slice reads as in a world, what a call owns, and the laws of append, make, copy and slicing in those words. No program is named here. -/
import Derived.WalkKit
import Derived.WalkLawsBesides
import Derived.Maps.AppendAt
import Derived.Laws.OwnMore
import Derived.Laws.CopyOwn
import Derived.Laws.BytesString
import Derived.Lib.SlBytesConst
import Derived.Deep.QuietTactic
import Derived.BigQuiet
import Derived.Outline
namespace Go.Proofs.Ytgiegiobigdplaa
open Go Go.RowKit

/-- A byte as a value. -/
abbrev u8v (b : UInt8) : Value := .int .u8 (b.toNat : Int)

/-- The slice value v, of n elements of 'size' cells each, reads as the cells xs. -/
def RowN (w : World) (size : Nat) (v : Value) (n : Nat) (xs : List Value) : Prop :=
  xs.length = n * size ∧ ∃ A cap, v = .slice A n cap ∧ n ≤ cap ∧ cap ≤ maxLen ∧
    (n = 0 ∨ ∃ b off, A = some ⟨b, off, none⟩ ∧ ∀ i x, xs[i]? = some x → w.cell? ⟨b, off + i, none⟩ = some x)

/-- The slice value v reads as these bytes. -/
def Bs (w : World) (v : Value) (bs : List UInt8) : Prop := RowN w 1 v bs.length (bs.map u8v)

theorem add_off (b off i : Nat) : (⟨b, off, none⟩ : Addr).add i = ⟨b, off + i, none⟩ := by
  unfold Addr.add; split <;> simp_all

section
variable {w w' : World} {size n : Nat} {v : Value} {xs : List Value}

theorem RowN.keep (h : RowN w size v n xs) (hk : ∀ p x, w.cell? p = some x → w'.cell? p = some x) : RowN w' size v n xs := by
  obtain ⟨hl, A, cap, hv, h1, h2, h3⟩ := h
  refine ⟨hl, A, cap, hv, h1, h2, ?_⟩
  rcases h3 with h3 | ⟨b, off, hA, hc⟩
  · exact .inl h3
  · exact .inr ⟨b, off, hA, fun i x hx => hk _ _ (hc i x hx)⟩

theorem cell_below {w w' : World} (hb : Below w.heap.size w w') {p : Addr} {x : Value} (h : w.cell? p = some x) : w'.cell? p = some x :=
  (hb.cell (World.block_lt_of_cell? w p h)).trans h

theorem RowN.below (h : RowN w size v n xs) (hb : Below w.heap.size w w') : RowN w' size v n xs :=
  h.keep fun _ _ hx => cell_below hb hx
theorem Bs.below {bs : List UInt8} (h : Bs w v bs) (hb : Below w.heap.size w w') : Bs w' v bs := RowN.below h hb

theorem below_alloc (w : World) (o : Obj) : Below w.heap.size w (w.alloc o) := (Below.refl _ _).alloc (Nat.le_refl _) o
theorem below_drew (w : World) : Below w.heap.size w w.drew := (Below.refl _ _).drew
theorem below_alloc' {a w : World} (h : Below a.heap.size a w) (o : Obj) : Below a.heap.size a (w.alloc o) := h.alloc h.size o
theorem below_drewN {B : Nat} {a w : World} (h : Below B a w) (n : Nat) : Below B a (w.drewN n) := ⟨h.os, h.tape, h.output, h.size, h.block⟩
theorem RowN.alloc (h : RowN w size v n xs) (o : Obj) : RowN (w.alloc o) size v n xs := h.below (below_alloc w o)
theorem RowN.drew (h : RowN w size v n xs) : RowN w.drew size v n xs := h
theorem RowN.drewN (h : RowN w size v n xs) (k : Nat) : RowN (w.drewN k) size v n xs := h
theorem Bs.alloc {bs : List UInt8} (h : Bs w v bs) (o : Obj) : Bs (w.alloc o) v bs := RowN.alloc h o
theorem Bs.drew {bs : List UInt8} (h : Bs w v bs) : Bs w.drew v bs := h
theorem Bs.drewN {bs : List UInt8} (h : Bs w v bs) (k : Nat) : Bs (w.drewN k) v bs := h

theorem RowN.nil (w : World) (size : Nat) : RowN w size (.slice none 0 0) 0 [] := ⟨by simp, none, 0, rfl, Nat.le_refl _, Nat.zero_le _, .inl rfl⟩
theorem Bs.nil (w : World) : Bs w (.slice none 0 0) [] := RowN.nil w 1

theorem RowN.of_own {base : Nat} {e : TypeId} (h : w.ownsRow base e size v n xs) : RowN w size v n xs := by
  refine ⟨h.1, ?_⟩
  rcases h.2 with ⟨rfl, hn⟩ | ⟨g, cap, cur, rfl, _, hg, h1, h2, _, ht⟩
  · exact ⟨none, 0, by rw [hn], by omega, Nat.zero_le _, .inl hn⟩
  · refine ⟨some ⟨g, 0, none⟩, cap, rfl, h1, h2, .inr ⟨g, 0, rfl, fun i x hx => ?_⟩⟩
    have := h.cells (g := g) rfl i x hx
    rw [add_off] at this
    exact this

/-- What a row of one-cell elements holds, its address at hand. -/
theorem Bs.open {A : Option Addr} {m cap : Nat} {bs : List UInt8} (h : Bs w (.slice A m cap) bs) :
    bs.length = m ∧ m ≤ cap ∧ cap ≤ maxLen ∧ (m = 0 ∨ ∃ b off, A = some ⟨b, off, none⟩ ∧ ∀ i, (hi : i < bs.length) → w.cell? ⟨b, off + i, none⟩ = some (u8v bs[i])) := by
  obtain ⟨hl, A', cap', hv, h1, h2, h3⟩ := h
  injection hv with e1 e2 e3
  subst e1; subst e2; subst e3
  refine ⟨rfl, h1, h2, h3.imp id fun ⟨b, off, hA, hc⟩ => ⟨b, off, hA, fun i hi => hc i _ (by simp [hi])⟩⟩
end

/-! ### What the call owns -/

/-- The slice v, of one-cell elements, owns the cells xs among the blocks from base on. -/
def Own (w : World) (base : Nat) (e : TypeId) (v : Value) (xs : List Value) : Prop := w.ownsRow base e 1 v xs.length xs

theorem Own.row {w : World} {base : Nat} {e : TypeId} {v : Value} {xs : List Value} (h : Own w base e v xs) : RowN w 1 v xs.length xs := RowN.of_own h

/-- bytes -/
def OwnBs (w : World) (base : Nat) (e : TypeId) (v : Value) (bs : List UInt8) : Prop := w.ownsRow base e 1 v bs.length (bs.map u8v)
theorem OwnBs.bs {w : World} {base : Nat} {e : TypeId} {v : Value} {bs : List UInt8} (h : OwnBs w base e v bs) : Bs w v bs := RowN.of_own h
theorem OwnBs.nil (w : World) (base : Nat) (e : TypeId) : OwnBs w base e (.slice none 0 0) [] := World.ownsRow_nil w base e 1

theorem own_mono {w : World} {base base' : Nat} {e : TypeId} {size n : Nat} {v : Value} {xs : List Value} (h : w.ownsRow base e size v n xs) (hb : base' ≤ base) : w.ownsRow base' e size v n xs := by
  refine ⟨h.1, ?_⟩
  rcases h.2 with hn | ⟨g, cap, cur, hv, h1, r⟩
  · exact .inl hn
  · exact .inr ⟨g, cap, cur, hv, Nat.le_trans hb h1, r⟩
theorem OwnBs.mono {w : World} {base base' : Nat} {e : TypeId} {v : Value} {bs : List UInt8} (h : OwnBs w base e v bs) (hb : base' ≤ base) : OwnBs w base' e v bs := own_mono h hb

theorem own_below {w w' : World} {base : Nat} {e : TypeId} {size n : Nat} {v : Value} {xs : List Value} (h : w.ownsRow base e size v n xs) (hb : Below w.heap.size w w') : w'.ownsRow base e size v n xs := by
  refine ⟨h.1, ?_⟩
  rcases h.2 with hn | ⟨g, cap, cur, hv, h1, hg, r⟩
  · exact .inl hn
  · exact .inr ⟨g, cap, cur, hv, h1, (hb.block g (Array.getElem?_eq_some_iff.1 hg).1).trans hg, r⟩
theorem OwnBs.below {w w' : World} {base : Nat} {e : TypeId} {v : Value} {bs : List UInt8} (h : OwnBs w base e v bs) (hb : Below w.heap.size w w') : OwnBs w' base e v bs := own_below h hb

/-- What the table says of a slice type and of its element. -/
structure ElemOk (P : Program) (T E : TypeId) (z : Value) (size bytes : Nat) : Prop where
  ty : P.underlying T = some (.slice E)
  info : ∃ i, P.info? E = some i ∧ i.zero = some z ∧ i.size = size ∧ i.bytes = bytes
  zsize : z.cells.size = size
  pos : 0 < size
  small : bytes ≤ 65536

theorem nextslicecap_wide {need old : Nat} (h : old < need) : Builtin.nextslicecap need old ≤ need + need / 4 + 512 := by
  unfold Builtin.nextslicecap
  split
  · omega
  · split
    · omega
    · rw [growBy_four]
      repeat' split
      all_goals omega

theorem growslice_fits_wide {need old bytes : Nat} (h : old < need) (hb : need * bytes ≤ 200000000000000) (hs : bytes ≤ 65536) : Builtin.nextslicecap need old * bytes ≤ 281474976710656 := by
  have h1 : Builtin.nextslicecap need old * bytes ≤ (need + need / 4 + 512) * bytes := Nat.mul_le_mul_right _ (nextslicecap_wide h)
  have h2 : need / 4 * bytes ≤ need * bytes / 4 := by
    rw [Nat.le_div_iff_mul_le (by decide), Nat.mul_right_comm]
    exact Nat.mul_le_mul_right _ (Nat.div_mul_le_self _ _)
  have h3 : 512 * bytes ≤ 512 * 65536 := Nat.mul_le_mul_left _ hs
  rw [Nat.add_mul, Nat.add_mul] at h1
  omega

section
variable {P : Program} (w : World)

/-- append onto what the call owns, from whatever row; the size's bound is the model's own. -/
theorem run_app (base : Nat) (T E ty : TypeId) (z : Value) (size bytes : Nat) (he : ElemOk P T E z size bytes)
    (v : Value) (n : Nat) (xs : List Value) (hown : w.ownsRow base E size v n xs) (x : Value) (m : Nat) (ys : List Value) (hr : RowN w size x m ys) (h1 : ∀ u ∈ ys, u.oneCell' = true)
    (hb : (n + m) * bytes ≤ 200000000000000) (h63 : n + m ≤ maxLen) (hbase : base ≤ w.heap.size) :
    ∃ v' w', (Builtin.append_ #[T, T] ty #[v, x]).run P w = .ok v' w' ∧ w'.ownsRow base E size v' (n + m) (xs ++ ys) ∧ w.grownBy w' v.ownBlock ∧
      (v'.ownBlock = v.ownBlock ∨ v'.ownBlock = some w.heap.size) := by
  obtain ⟨ht, ⟨i, hi, hz, hsize, hby⟩, hzs, hsz, hsm⟩ := he
  subst hsize
  subst hby
  obtain ⟨hl, A, c, rfl, hmc, hcm, hA⟩ := hr
  have hsmall : n + m ≤ 9223372036854775807 := by simp only [maxLen] at h63; omega
  have hlen : (xs ++ ys).length = (n + m) * i.size := by rw [List.length_append, hown.1, hl, Nat.add_mul]
  have grown : ∀ (old : Nat), old < n + m → ∀ (row : Option Nat),
      (w.drew.alloc (.cells (xs.toArray ++ ys.toArray ++ Builtin.zeroCells z.cells (grownCap w (n + m) old E - (n + m))) E)).ownsRow base E i.size
        (.slice (some ⟨w.heap.size, 0, none⟩) (n + m) (grownCap w (n + m) old E)) (n + m) (xs ++ ys) ∧
      w.grownBy (w.drew.alloc (.cells (xs.toArray ++ ys.toArray ++ Builtin.zeroCells z.cells (grownCap w (n + m) old E - (n + m))) E)) row := by
    intro old ho row
    have hge := grownCap_ge w (n + m) old E
    have hcm : grownCap w (n + m) old E ≤ maxLen := grownCap_le_maxLen w (n + m) old E h63
    refine ⟨⟨hlen, .inr ⟨w.heap.size, _, _, rfl, hbase, heap_alloc_new w.drew _, hge, hcm, ?_, ?_⟩⟩, ⟨rfl, rfl, rfl, by simp, fun k hk _ => Below.heap_alloc w.drew _ k hk⟩⟩
    · simp only [Array.size_append, List.size_toArray, size_zeroCells, hzs, hown.1, hl, ← Nat.add_mul]
      congr 1
      omega
    · simp only [Array.toList_append, List.append_assoc]
      rw [← List.append_assoc, ← hlen]
      exact List.take_left
  by_cases hm : m = 0
  · subst hm
    have hys : ys = [] := List.eq_nil_of_length_eq_zero (by simpa using hl)
    subst hys
    refine ⟨v, w, ?_, by simpa using hown, ⟨rfl, rfl, rfl, Nat.le_refl _, fun _ _ _ => rfl⟩, Or.inl rfl⟩
    rcases hown.2 with ⟨rfl, rfl⟩ | ⟨g, cap, cur, rfl, _, _, hnc, _⟩
    · cases A <;> simp [Builtin.append_, run_underlying ht, sizeOf, typeInfo, hi, Builtin.lenOf, Builtin.firstCells, loadCells, loadCellsFrom]
    · cases A <;> simp [Builtin.append_, run_underlying ht, sizeOf, typeInfo, hi, Builtin.lenOf, Builtin.firstCells, loadCells, loadCellsFrom, hnc, storeCells]
  · rcases hA with hA | ⟨b, off, rfl, hcells⟩
    · exact absurd hA hm
    have hnews : ∀ j u, ys[j]? = some u → w.cell? ((⟨b, off, none⟩ : Addr).add j) = some u := fun j u hu => by rw [add_off]; exact hcells j u hu
    rcases hown.2 with ⟨rfl, rfl⟩ | ⟨g, cap, cur, rfl, hbg, hg, hnc, hcm, hcs, htake⟩
    · have hx : xs = [] := List.eq_nil_of_length_eq_zero (by simpa using hown.1)
      subst hx
      have hr := run_append_nil (P := P) w T ty E i z ht hi hz ⟨b, off, none⟩ m c ys hl hnews (by omega) (by omega) (by simp only [Nat.zero_add] at hb; omega)
      have hgr := grown 0 (by omega) (Value.ownBlock (.slice none 0 0))
      simp only [Nat.zero_add, List.nil_append, Array.empty_append] at hgr ⊢
      exact ⟨_, _, hr, hgr.1, hgr.2, Or.inr rfl⟩
    · by_cases hroom : n + m ≤ cap
      · have hfit : n * i.size + ys.length ≤ cur.size := by rw [hl, hcs, ← Nat.add_mul]; exact Nat.mul_le_mul_right _ hroom
        have hr := run_append_room (P := P) w T ty E i ht hi g n cap cur hg ⟨b, off, none⟩ m c ys hl hnews h1 hroom hfit
        refine ⟨_, _, hr, ⟨hlen, .inr ⟨g, cap, _, rfl, hbg, setRow_heap w g cur _ E _ hg, hroom, hcm, ?_, ?_⟩⟩, ⟨rfl, rfl, rfl, by simp, fun k _ hk => setRow_other w g k _ (fun e => hk (by simp [Value.ownBlock, e]))⟩, Or.inl rfl⟩
        · simp only [List.size_toArray, List.length_append, List.length_take, List.length_drop, Array.length_toList]
          omega
        · rw [htake, ← hlen]
          exact List.take_left
      · have holds : ∀ j u, xs[j]? = some u → w.cell? ((⟨g, 0, none⟩ : Addr).add j) = some u := hown.cells (g := g) rfl
        have hr := run_append_grow (P := P) w T ty E i z ht hi hz ⟨g, 0, none⟩ n cap xs hown.1 holds ⟨b, off, none⟩ m c ys hl hnews (by omega) (by omega) (growslice_fits_wide (by omega) hb hsm)
        have hgr := grown cap (by omega) (Value.ownBlock (.slice (some ⟨g, 0, none⟩) n cap))
        exact ⟨_, _, hr, hgr.1, hgr.2, Or.inr rfl⟩

/-- The same at the operation, for the walk. -/
theorem wpList_app {ops : Array Oper} {rest : List Oper} {o : Oper} {a : Act} {Q : Exit → Act → World → Prop} (hgd : o.guard = none) (s x : Operand) (T : TypeId)
    (ho : o.op = .call { callee := .builtin .append, args := #[s, x], argTypes := #[T, T] })
    (base : Nat) (E : TypeId) (z : Value) (size bytes : Nat) (he : ElemOk P T E z size bytes)
    (v : Value) (n : Nat) (xs : List Value) (hs : a.eval s = v) (hown : w.ownsRow base E size v n xs) (y : Value) (m : Nat) (ys : List Value) (hx : a.eval x = y) (hr : RowN w size y m ys) (h1 : ∀ u ∈ ys, u.oneCell' = true)
    (hb : (n + m) * bytes ≤ 200000000000000) (h63 : n + m ≤ maxLen) (hbase : base ≤ w.heap.size)
    (h : ∀ v' w', w'.ownsRow base E size v' (n + m) (xs ++ ys) → w.grownBy w' v.ownBlock → (v'.ownBlock = v.ownBlock ∨ v'.ownBlock = some w.heap.size) → wpList P ops Q rest (a.put o.dst v') w') : wpList P ops Q (o :: rest) a w := by
  refine wpList_plain hgd fun K hK => ?_
  obtain ⟨v', w', hrun, h2, h3, h4⟩ := run_app (P := P) w base T E o.type z size bytes he v n xs hown y m ys hr h1 hb h63 hbase
  unfold Oper.wp execOp
  simp only [ho, resolve, invoke, builtin, Sem.run_bind, Sem.run_pure, Result.andThen_ok, List.map_toArray, List.map_cons, List.map_nil, hs, hx, hrun]
  exact hK _ _ (h v' w' h2 h3 h4)

/-- Bytes onto bytes. -/
theorem u8_one (bs : List UInt8) : ∀ u ∈ bs.map u8v, u.oneCell' = true := by
  intro u hu
  obtain ⟨_, _, rfl⟩ := List.mem_map.1 hu
  rfl
theorem wpList_app8 {ops : Array Oper} {rest : List Oper} {o : Oper} {a : Act} {Q : Exit → Act → World → Prop} (hgd : o.guard = none) (s x : Operand) (T : TypeId)
    (ho : o.op = .call { callee := .builtin .append, args := #[s, x], argTypes := #[T, T] })
    (base : Nat) (E : TypeId) (he : ElemOk P T E (.int .u8 0) 1 1)
    (v : Value) (bs : List UInt8) (hs : a.eval s = v) (hown : OwnBs w base E v bs) (y : Value) (cs : List UInt8) (hx : a.eval x = y) (hr : Bs w y cs)
    (hb : bs.length + cs.length ≤ 200000000000000) (hbase : base ≤ w.heap.size)
    (h : ∀ v' w', OwnBs w' base E v' (bs ++ cs) → Below base w w' → w.grownBy w' v.ownBlock → (v'.ownBlock = v.ownBlock ∨ v'.ownBlock = some w.heap.size) → wpList P ops Q rest (a.put o.dst v') w') : wpList P ops Q (o :: rest) a w := by
  refine wpList_app w hgd s x T ho base E _ 1 1 he v bs.length _ hs hown y cs.length _ hx hr (u8_one cs) (by omega) (by simp only [maxLen]; omega) hbase fun v' w' h1 h2 h3 => ?_
  refine h v' w' ?_ ((Below.refl base w).grown h2 hbase fun k hk => (World.ownsRow.lt hown k hk).1) h2 h3
  show World.ownsRow _ _ _ _ _ _ _
  rw [List.length_append, List.map_append]
  exact h1

theorem u8_oneCell (bs : List UInt8) : ∀ u ∈ bs.map u8v, u.oneCell' = true := by
  intro u hu
  obtain ⟨_, _, rfl⟩ := List.mem_map.1 hu
  rfl

theorem grown_below {w w' : World} {base : Nat} {e : TypeId} {size n : Nat} {v : Value} {xs : List Value} (hown : w.ownsRow base e size v n xs) (hbase : base ≤ w.heap.size) (hg : w.grownBy w' v.ownBlock) : Below base w w' :=
  (Below.refl base w).grown hg hbase fun k hk => (hown.lt k hk).1
end

theorem OwnBs.alloc {w : World} {base : Nat} {e : TypeId} {v : Value} {bs : List UInt8} (h : OwnBs w base e v bs) (o : Obj) : OwnBs (w.alloc o) base e v bs := World.ownsRow.alloc h o
theorem OwnBs.drew {w : World} {base : Nat} {e : TypeId} {v : Value} {bs : List UInt8} (h : OwnBs w base e v bs) : OwnBs w.drew base e v bs := h

/-- A literal that was just laid. -/
theorem own_lit {w : World} {base : Nat} {e : TypeId} (cs : Array Value) (n : Nat) (hn : cs.size = n) (hb : base ≤ w.heap.size) (hm : n ≤ 65536) :
    (w.alloc (.cells cs e)).ownsRow base e 1 (.slice (some ⟨w.heap.size, 0, none⟩) n n) n cs.toList :=
  World.ownsRow_lit w cs n hb (by simp only [maxLen]; omega) (by omega)
theorem row_lit {w : World} {e : TypeId} (cs : Array Value) (n : Nat) (hn : cs.size = n) (hm : n ≤ 65536) :
    RowN (w.alloc (.cells cs e)) 1 (.slice (some ⟨w.heap.size, 0, none⟩) n n) n cs.toList := RowN.of_own (own_lit (base := 0) cs n hn (Nat.zero_le _) hm)
theorem ownBs_lit {w : World} {base : Nat} {e : TypeId} (cs : Array Value) (bs : List UInt8) (h : cs.toList = bs.map u8v) (hb : base ≤ w.heap.size) (hm : bs.length ≤ 65536) :
    OwnBs (w.alloc (.cells cs e)) base e (.slice (some ⟨w.heap.size, 0, none⟩) bs.length bs.length) bs := by
  have := own_lit (w := w) (base := base) (e := e) cs bs.length (by rw [← Array.length_toList, h]; simp) hb hm
  rw [h] at this
  exact this
theorem bs_lit {w : World} {e : TypeId} (cs : Array Value) (bs : List UInt8) (h : cs.toList = bs.map u8v) (hm : bs.length ≤ 65536) :
    Bs (w.alloc (.cells cs e)) (.slice (some ⟨w.heap.size, 0, none⟩) bs.length bs.length) bs := (ownBs_lit (base := 0) cs bs h (Nat.zero_le _) hm).bs
theorem bs_one {w : World} {e : TypeId} {x : Int} {b : UInt8} (h : x = (b.toNat : Int)) :
    Bs (w.alloc (.cells #[.int .u8 x] e)) (.slice (some ⟨w.heap.size, 0, none⟩) 1 1) [b] := bs_lit #[.int .u8 x] [b] (by simp [h]) (by simp)

/-! ### A piece of a slice -/

/-- Where a piece begins (at the very end the address stays). -/
def cutA (A : Option Addr) (cap l size : Nat) : Option Addr := if cap = l then A else A.map (·.add (l * size))

/-- x[lo:hi]: one equation, the address under one name. -/
theorem run_cut {P : Program} {T E : TypeId} {i : TypeInfo} (ht : P.underlying T = some (.slice E)) (hi : P.info? E = some i) (A : Option Addr) (n cap : Nat) (k1 k2 : IntKind) (lo hi' : Int) (l k : Nat)
    (h1 : lo = l) (h2 : hi' = l + k) (h3 : l + k ≤ cap) (w : World) :
    (Instr.sliceAt T (.slice A n cap) (some (.int k1 lo)) (some (.int k2 hi')) none).run P w = .ok (.slice (cutA A cap l i.size) k (cap - l)) w := by
  subst h1; subst h2
  have a1 : (0 : Int) ≤ (l : Int) + (k : Int) ∧ (l : Int) + (k : Int) ≤ (cap : Int) := by omega
  have a2 : ((l : Int) + (k : Int)).toNat = l + k := by omega
  have a3 : cap - l = 0 ↔ cap = l := by omega
  by_cases hc : cap = l
  · simp [Instr.sliceAt, Instr.slice, run_underlying ht, Instr.sliceBounds, Instr.sliceBound, asIntOf, sizeOf, typeInfo, hi, a1, a2, hc, cutA]
    omega
  · simp [Instr.sliceAt, Instr.slice, run_underlying ht, Instr.sliceBounds, Instr.sliceBound, asIntOf, sizeOf, typeInfo, hi, a1, a2, hc, cutA]
/-- x[lo:] -/
theorem run_cut_from {P : Program} {T E : TypeId} {i : TypeInfo} (ht : P.underlying T = some (.slice E)) (hi : P.info? E = some i) (A : Option Addr) (n cap : Nat) (k1 : IntKind) (lo : Int) (l k : Nat)
    (h1 : lo = l) (h2 : n = l + k) (h3 : n ≤ cap) (w : World) :
    (Instr.sliceAt T (.slice A n cap) (some (.int k1 lo)) none none).run P w = .ok (.slice (cutA A cap l i.size) k (cap - l)) w := by
  subst h1; subst h2
  have a1 : (0 : Int) ≤ (l : Int) ∧ (l : Int) ≤ ((l + k : Nat) : Int) := by omega
  by_cases hc : cap = l
  · simp [Instr.sliceAt, Instr.slice, run_underlying ht, Instr.sliceBounds, Instr.sliceBound, asIntOf, sizeOf, typeInfo, hi, hc, cutA]
  · simp [Instr.sliceAt, Instr.slice, run_underlying ht, Instr.sliceBounds, Instr.sliceBound, asIntOf, sizeOf, typeInfo, hi, hc, cutA]
/-- x[:hi] -/
theorem run_cut_to {P : Program} {T E : TypeId} {i : TypeInfo} (ht : P.underlying T = some (.slice E)) (hi : P.info? E = some i) (A : Option Addr) (n cap : Nat) (k2 : IntKind) (hi' : Int) (k : Nat)
    (h2 : hi' = k) (h3 : k ≤ cap) (w : World) :
    (Instr.sliceAt T (.slice A n cap) none (some (.int k2 hi')) none).run P w = .ok (.slice (cutA A cap 0 i.size) k cap) w := by
  subst h2
  have a1 : (0 : Int) ≤ (k : Int) ∧ (k : Int) ≤ (cap : Int) := by omega
  by_cases hc : cap = 0
  · simp [Instr.sliceAt, Instr.slice, run_underlying ht, Instr.sliceBounds, Instr.sliceBound, asIntOf, sizeOf, typeInfo, hi, hc, cutA]
    omega
  · simp [Instr.sliceAt, Instr.slice, run_underlying ht, Instr.sliceBounds, Instr.sliceBound, asIntOf, sizeOf, typeInfo, hi, hc, cutA]
    omega

theorem RowN.cut {w : World} {size n cap l k : Nat} {A : Option Addr} {xs : List Value} (h : RowN w size (.slice A n cap) n xs) (hlk : l + k ≤ n) :
    RowN w size (.slice (cutA A cap l size) k (cap - l)) k ((xs.drop (l * size)).take (k * size)) := by
  obtain ⟨hl, A', cap', hv, h1, h2, h3⟩ := h
  injection hv with e1 e2 e3
  subst e1; subst e3
  have hmul : (l + k) * size ≤ n * size := Nat.mul_le_mul_right _ hlk
  rw [Nat.add_mul] at hmul
  refine ⟨by simp [hl]; omega, _, _, rfl, by omega, by omega, ?_⟩
  rcases Nat.eq_zero_or_pos k with hk | hk
  · exact .inl hk
  · rcases h3 with h3 | ⟨b, off, hA, hc⟩
    · omega
    · refine .inr ⟨b, off + l * size, ?_, fun i x hx => ?_⟩
      · unfold cutA
        rw [if_neg (by omega), hA, Option.map_some, add_off]
      · rw [Nat.add_assoc]
        refine hc _ x ?_
        rw [List.getElem?_take] at hx
        split at hx
        · rwa [List.getElem?_drop] at hx
        · cases hx

theorem Bs.cut {w : World} {n cap l k : Nat} {A : Option Addr} {bs : List UInt8} (h : Bs w (.slice A n cap) bs) (hlk : l + k ≤ bs.length) :
    Bs w (.slice (cutA A cap l 1) k (cap - l)) ((bs.drop l).take k) := by
  have hn : bs.length = n := (Bs.open h).1
  have h' := RowN.cut (h := (hn ▸ h : RowN w 1 (.slice A n cap) n (bs.map u8v))) (l := l) (k := k) (by omega)
  have hlen : ((bs.drop l).take k).length = k := by simp; omega
  unfold Bs
  rw [hlen, List.map_take, List.map_drop]
  simpa using h'

/-! ### A block that is known whole -/

def Blk (w : World) (g : Nat) (t : TypeId) (xs : List Value) : Prop := w.heap[g]? = some (.cells xs.toArray t (0, 0))
section
variable {w w' : World} {g : Nat} {t : TypeId} {xs : List Value}
theorem Blk.lt (h : Blk w g t xs) : g < w.heap.size := (Array.getElem?_eq_some_iff.1 h).1
theorem Blk.cell (h : Blk w g t xs) (i : Nat) : w.cell? ⟨g, i, none⟩ = xs[i]? := by
  rw [cell_of_row w g i _ t (0, 0) h]; simp
theorem Blk.frozen (h : Blk w g t xs) (i : Nat) : w.frozen? ⟨g, i, none⟩ = false := frozen_of_row w g i _ t h
theorem Blk.new (w : World) (t : TypeId) (cs : Array Value) : Blk (w.alloc (.cells cs t)) w.heap.size t cs.toList := by
  have := heap_alloc_new w (.cells cs t (0, 0))
  simpa [Blk] using this
theorem Blk.drew (h : Blk w g t xs) : Blk w.drew g t xs := h
theorem Blk.drewN (h : Blk w g t xs) (n : Nat) : Blk (w.drewN n) g t xs := h
theorem Blk.alloc (h : Blk w g t xs) (o : Obj) : Blk (w.alloc o) g t xs := (Below.heap_alloc w o g h.lt).trans h
theorem Blk.set_ (h : Blk w g t xs) (i : Nat) (u : Value) : Blk (w.setCell ⟨g, i, none⟩ u) g t (xs.set i u) := by
  have := heap_setCell_same w g i xs.toArray t u h
  simpa [Blk] using this
theorem Blk.far (h : Blk w g t xs) {p : Addr} (hp : g ≠ p.block) (u : Value) : Blk (w.setCell p u) g t xs := (Below.heap_setCell w p u g hp).trans h
theorem Blk.below {B : Nat} (h : Blk w g t xs) (hb : Below B w w') (hg : g < B) : Blk w' g t xs := (hb.block g hg).trans h
theorem Blk.keep (h : Blk w g t xs) (hb : Below w.heap.size w w') : Blk w' g t xs := h.below hb h.lt
theorem Blk.grown {row : Option Nat} (h : Blk w g t xs) (hb : w.grownBy w' row) (hg : some g ≠ row) : Blk w' g t xs := (hb.block g h.lt hg).trans h
/-- A slice over such a block. -/
theorem Blk.row (h : Blk w g t xs) {off n cap size : Nat} (hn : off + n * size ≤ xs.length) (h1 : n ≤ cap) (h2 : cap ≤ maxLen) :
    RowN w size (.slice (some ⟨g, off, none⟩) n cap) n ((xs.drop off).take (n * size)) := by
  refine ⟨by simp; omega, _, _, rfl, h1, h2, .inr ⟨g, off, rfl, fun i x hx => ?_⟩⟩
  rw [h.cell]
  rw [List.getElem?_take] at hx
  split at hx
  · rwa [List.getElem?_drop] at hx
  · cases hx
theorem Blk.bs {bs : List UInt8} (h : Blk w g t xs) {off n cap : Nat} (hx : (xs.drop off).take n = bs.map u8v) (hn : bs.length = n) (h1 : n ≤ cap) (h2 : cap ≤ maxLen) :
    Bs w (.slice (some ⟨g, off, none⟩) n cap) bs := by
  have hl : off + n * 1 ≤ xs.length ∨ n = 0 := by
    have := congrArg List.length hx
    simp at this
    omega
  rcases hl with hl | hl
  · have := h.row (size := 1) hl h1 h2
    rw [Nat.mul_one, hx] at this
    rw [← hn] at this ⊢
    exact this
  · subst hl
    have : bs = [] := List.eq_nil_of_length_eq_zero hn
    subst this
    exact ⟨by simp, _, _, rfl, h1, h2, .inl rfl⟩
end

/-- copy into a block that is known whole -/
theorem wpList_copyBs {P : Program} {w : World} {ops : Array Oper} {rest : List Oper} {o : Oper} {a : Act} {Q : Exit → Act → World → Prop} (hgd : o.guard = none) (d s : Operand) (T : TypeId)
    (ho : o.op = .call { callee := .builtin .copy, args := #[d, s], argTypes := #[T, T] }) (E : TypeId) (he : ElemOk P T E (.int .u8 0) 1 1)
    (g off dLen dCap : Nat) (hd : a.eval d = .slice (some ⟨g, off, none⟩) dLen dCap) (y : Value) (cs : List UInt8) (hs : a.eval s = y) (hr : Bs w y cs)
    (xs : List Value) (t : TypeId) (hg : Blk w g t xs) (hfit : off + dLen ≤ xs.length)
    (h : ∀ w', Blk w' g t (xs.take off ++ ((cs.take dLen).map u8v ++ xs.drop (off + (cs.take dLen).length))) → w.grownBy w' (some g) → w'.heap.size = w.heap.size → wpList P ops Q rest (a.put o.dst (goInt (cs.take dLen).length)) w') : wpList P ops Q (o :: rest) a w := by
  obtain ⟨hu, ⟨i, hi, _, hsz, _⟩, _⟩ := he
  have hsz' : (P.info? E).map (·.size) = some 1 := by rw [hi]; simp [hsz]
  obtain ⟨hl, A, c, rfl, h1, h2, h3⟩ := hr
  have hlen : ((cs.take dLen).map u8v).length = Nat.min cs.length dLen := by rw [List.length_map, List.length_take]; exact Nat.min_comm ..
  rcases Nat.eq_zero_or_pos (Nat.min cs.length dLen) with h0 | h0
  · have hnil : cs.take dLen = [] := List.eq_nil_of_length_eq_zero (by rw [List.length_map] at hlen; omega)
    refine wpList_copy_nothing hgd d s T T ho E hu hsz' _ _ _ _ _ _ hd hs h0 ?_
    rw [hnil] at h
    refine h w ?_ ⟨rfl, rfl, rfl, Nat.le_refl _, fun _ _ _ => rfl⟩ rfl
    simpa using hg
  · rcases h3 with h3 | ⟨b, o1, rfl, hc⟩
    · rw [h3] at h0; simp at h0
    · refine wpList_copy_own hgd d s T T ho E hu hsz' g off dLen dCap ⟨b, o1, none⟩ cs.length c hd hs xs.toArray t hg ((cs.take dLen).map u8v) hlen ?_ ?_ (u8_one _) ?_
      · intro j u hu
        rw [add_off]
        refine hc j u ?_
        rw [List.getElem?_map] at hu ⊢
        rw [List.getElem?_take] at hu
        split at hu
        · exact hu
        · cases hu
      · have : ((cs.take dLen).map u8v).length ≤ dLen := by simp; omega
        simp only [List.size_toArray]
        omega
      · rw [List.length_map]
        refine h _ ?_ ⟨rfl, rfl, rfl, by simp [World.setRow], fun k _ hk => setRow_other w g k _ (fun e => hk (by rw [e]))⟩ (by simp [World.setRow])
        have := setRow_heap w g xs.toArray (xs.take off ++ ((cs.take dLen).map u8v ++ xs.drop (off + (cs.take dLen).length))).toArray t _ hg
        simpa [Blk] using this

/-- So many noughts, as the cells of a new row of bytes: kept shut. -/
def zero8 (n : Nat) : Array Value := (List.replicate n (Value.int .u8 0)).toArray
theorem run_make8 {P : Program} {T E : TypeId} (he : ElemOk P T E (.int .u8 0) 1 1) (kl kc : IntKind) (c : Int) (n : Nat) (hn : c = n) (hb : n ≤ 281474976710656) (w : World) :
    (Instr.makeSlice T (.int kl c) (.int kc c)).run P w = .ok (.slice (some ⟨w.heap.size, 0, none⟩) n n) (w.alloc (.cells (zero8 n) E)) := by
  obtain ⟨hu, ⟨i, hi, hz, hsz, hby⟩, _⟩ := he
  subst hn
  have hr := run_make (P := P) w T E i _ hu hi hz kl kc n n (by omega) (Int.le_refl _) (by rw [hby]; omega) (by omega)
  rw [hr, hsz]
  simp only [Int.toNat_natCast, Nat.mul_one]
  have : madeCells (Value.int .u8 0).cells n = zero8 n := by
    apply Array.ext'
    rw [zero8]
    exact toList_madeCells_one _ n
  rw [this]

/-! ### Bytes as a string -/

/-- The string of these bytes: kept shut. -/
def mkStr (bs : List UInt8) : ByteArray := ⟨bs.toArray⟩
theorem mkStr_inj {a b : List UInt8} : mkStr a = mkStr b ↔ a = b := by
  unfold mkStr
  constructor
  · intro h
    have := congrArg (fun x : ByteArray => x.data.toList) h
    simpa using this
  · intro h; rw [h]
theorem foldl_push (l : List UInt8) (acc : ByteArray) : (l.map fun (b : UInt8) => (b.toNat : Int)).foldl (fun (r : ByteArray) (n : Int) => r.push (UInt8.ofNat n.toNat)) acc = ⟨acc.data ++ l.toArray⟩ := by
  induction l generalizing acc with
  | nil => cases acc; simp
  | cons b l ih =>
    rw [List.map_cons, List.foldl_cons, ih]
    cases acc
    simp [ByteArray.push]
theorem run_str {P : Program} {T E S : TypeId} (h1 : P.underlying T = some (.slice E)) (h2 : P.underlying E = some (.int .u8)) (h3 : P.underlying S = some .string) {w : World} {v : Value} {bs : List UInt8} (h : Bs w v bs) :
    (convert T S v).run P w = .ok (.string (mkStr bs)) w := by
  obtain ⟨hl, A, cap, rfl, k1, k2, hA⟩ := h
  rw [run_convert_bytes_string w T S E A bs.length cap h1 h2 h3]
  rcases hA with h0 | ⟨b, off, rfl, hc⟩
  · have : bs = [] := List.eq_nil_of_length_eq_zero h0
    subst this
    cases A
    · simp [Conv.bytesToString, mkStr]; rfl
    · rename_i a
      have hload : (loadCells a 0).run P w = .ok (([] : List Int).map (Value.int .u8)).toArray w := by simp [loadCells, loadCellsFrom]
      have := run_bytesToString (P := P) w a 0 cap [] hload
      exact this
  · have hload : (loadCells ⟨b, off, none⟩ bs.length).run P w = .ok ((bs.map fun (b : UInt8) => (b.toNat : Int)).map (Value.int .u8)).toArray w := by
      have := run_loadCells_list (P := P) w ⟨b, off, none⟩ (bs.map u8v) (fun j v hv => by rw [add_off]; exact hc j v hv)
      rw [List.length_map] at this
      rw [this, List.map_map]
      rfl
    rw [run_bytesToString (P := P) w _ bs.length cap _ hload, foldl_push]
    simp [mkStr]

theorem mkStr_toList (bs : List UInt8) : (mkStr bs).toList = bs := by
  rw [ByteArray.toList_eq]; simp [mkStr]

/-! ### Literals, marked or not, of one-cell elements -/
theorem row_litm {w : World} {e : TypeId} {mk : Nat × Nat} (cs : Array Value) (xs : List Value) (n H : Nat) (hx : cs.toList = xs) (hn : xs.length = n) (hm : n ≤ 65536) (hH : H = w.heap.size) :
    RowN (w.alloc (.cells cs e mk)) 1 (.slice (some ⟨H, 0, none⟩) n n) n xs := by
  subst hx; subst hH
  refine ⟨by omega, _, _, rfl, Nat.le_refl _, by simp only [maxLen]; omega, .inr ⟨_, 0, rfl, fun i x hx => ?_⟩⟩
  have : (w.alloc (.cells cs e mk)).heap[w.heap.size]? = some (.cells cs e mk) := by
    show (w.heap.push _)[w.heap.size]? = _
    simp
  unfold World.cell?
  simp only [this, Nat.zero_add]
  simpa using hx
theorem bs_litm {w : World} {e : TypeId} {mk : Nat × Nat} (cs : Array Value) (bs : List UInt8) (n H : Nat) (hx : cs.toList = bs.map u8v) (hn : bs.length = n) (hm : n ≤ 65536) (hH : H = w.heap.size) :
    Bs (w.alloc (.cells cs e mk)) (.slice (some ⟨H, 0, none⟩) n n) bs := by
  have := row_litm (w := w) (e := e) (mk := mk) cs (bs.map u8v) n H hx (by simpa using hn) hm hH
  subst hn
  exact this

/-- A callee's contract inside a region that draws, where the world has been drawn from already. -/
theorem quiet_add {P : Program} {f : FuncId} {args : Array Value} {w : World} {a n : Nat} {v : Value}
    (h : Calls P f args (w.drewN (a + n)) fun e w' => e = .returned v ∧ ∃ m, w' = (w.drewN (a + n)).drewN m) :
    Calls P f args (w.drewN (a + n)) fun e w'' => e = .returned v ∧ ∃ m, w'' = w.drewN (a + m) :=
  h.mono fun _ _ ⟨he, m, hm⟩ => ⟨he, n + m, by rw [hm, World.drewN_drewN, Nat.add_assoc]⟩
theorem hid {p : Prop} (h : p) : Hid p := h

theorem ret_int {k : IntKind} {a b : Int} (h : a = b) : Ending.returned (.int k a) = Ending.returned (.int k b) := by rw [h]
theorem ret_bool {a b : Bool} (h : a = b) : Ending.returned (.bool a) = Ending.returned (.bool b) := by rw [h]
theorem val_int {k : IntKind} {a b : Int} (h : a = b) : Value.int k a = Value.int k b := by rw [h]
end Go.Proofs.Ytgiegiobigdplaa
