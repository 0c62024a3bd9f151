/- What came in, opened: values and slices of structs, laid flat: each cell a number, a bool or a slice of bytes. No program is named here. -/
import Derived.Test.YtgiegiobigdplaaOpen
namespace Go.Proofs.Ytgiegiobigdplaa
open Go Go.RowKit Go.ChangeShapes Go.WideShapes Go.Deep

inductive Leaf where
  | int (k : IntKind)
  | bool
  | bytes
def LeafOk (w : World) : Leaf → Value → Prop
  | .int k, v => ∃ z, v = .int k z ∧ (Lit.int k z).wf = true
  | .bool, v => ∃ b, v = .bool b
  | .bytes, v => ∃ bs, Bs w v bs
def Leaves (w : World) : List Leaf → List Value → Prop
  | [], [] => True
  | l :: ls, c :: cs => LeafOk w l c ∧ Leaves w ls cs
  | _, _ => False
def joinF (P : Program) (L : TypeId → Option (List Leaf)) : List Field → Nat → Option (List Leaf)
  | [], _ => some []
  | f :: fs, off => if f.offset = off then (L f.type).bind fun ls => if ls.length = P.cellsOf f.type then (joinF P L fs (off + ls.length)).map (ls ++ ·) else none else none
def leaves (P : Program) : Nat → TypeId → Option (List Leaf)
  | 0, _ => none
  | n + 1, t => match P.underlying t with
    | some .bool => some [.bool]
    | some (.int k) => some [.int k]
    | some (.slice e) => match P.underlying e with
      | some (.int .u8) => if P.cellsOf e = 1 then some [.bytes] else none
      | _ => none
    | some (.struct fs) => (joinF P (leaves P n) fs.toList 0).bind fun ls => if ls.length = P.cellsOf t then some ls else none
    | some (.array m e) => (leaves P n e).bind fun ls => if ls.length = P.cellsOf e ∧ m * ls.length = P.cellsOf t then some (List.replicate m ls).flatten else none
    | _ => none

theorem Leaves.app {w : World} {ls ls' : List Leaf} {cs cs' : List Value} (h : Leaves w ls cs) (h' : Leaves w ls' cs') : Leaves w (ls ++ ls') (cs ++ cs') := by
  induction ls generalizing cs with
  | nil =>
    cases cs with
    | nil => exact h'
    | cons c cs => exact h.elim
  | cons l ls ih =>
    cases cs with
    | nil => exact h.elim
    | cons c cs => exact ⟨h.1, ih h.2⟩
theorem Leaves.len {w : World} {ls : List Leaf} {cs : List Value} (h : Leaves w ls cs) : ls.length = cs.length := by
  induction ls generalizing cs with
  | nil =>
    cases cs with
    | nil => rfl
    | cons c cs => exact h.elim
  | cons l ls ih =>
    cases cs with
    | nil => exact h.elim
    | cons c cs => simp [ih h.2]
theorem Leaves.cons {w : World} {l : Leaf} {ls : List Leaf} {cs : List Value} (h : Leaves w (l :: ls) cs) : ∃ c r, cs = c :: r ∧ LeafOk w l c ∧ Leaves w ls r := by
  cases cs with
  | nil => exact h.elim
  | cons c cs => exact ⟨c, cs, rfl, h.1, h.2⟩
theorem Leaves.nil {w : World} {cs : List Value} (h : Leaves w [] cs) : cs = [] := by
  cases cs with
  | nil => rfl
  | cons c cs => exact h.elim

section
variable {H : Type} {enc : TypeId × Value → H} {P : Program} {w : World} {base : Nat} {spare : Nat → Bool} {held : Bool}

theorem trod_array {t e : TypeId} {m fuel : Nat} {cs : List Value} {x : DataW H × List MemPlace} (ht : P.underlying t = some (.array m e)) (h : DataW.trod enc P w base spare held fuel t cs = some x) :
    ∃ n, cs.length = P.cellsOf t ∧ ∀ i, i < m → ∃ y, DataW.trod enc P w base spare held n e ((cs.drop (i * P.cellsOf e)).take (P.cellsOf e)) = some y := by
  cases fuel with
  | zero => simp [DataW.trod] at h
  | succ n =>
    unfold DataW.trod at h
    rw [ht] at h
    split at h <;> simp_all
    obtain ⟨hl, xs, hp, hd⟩ := h
    refine ⟨n, fun i hi => ?_⟩
    have h1 := mapM_some_get hp i i (by simp [hi])
    have h2 := mapM_some_length hp
    rw [List.getElem?_eq_getElem (by rw [h2]; simpa using hi)] at h1
    exact ⟨_, _, h1⟩

theorem take_two {α : Type} (cs : List α) (off a b : Nat) : (cs.drop off).take (a + b) = (cs.drop off).take a ++ (cs.drop (off + a)).take b := by
  rw [List.take_add, List.drop_drop]

theorem joinF_ok {n : Nat} {L : TypeId → Option (List Leaf)} (cs : List Value)
    (hL : ∀ t ls cs', L t = some ls → (∃ y, DataW.trod enc P w base spare held n t cs' = some y) → Leaves w ls cs') :
    ∀ (fs : List Field) (off : Nat) (ls : List Leaf), joinF P L fs off = some ls → (∀ f ∈ fs, ∃ y, DataW.trod enc P w base spare held n f.type ((cs.drop f.offset).take (P.cellsOf f.type)) = some y) →
      Leaves w ls ((cs.drop off).take ls.length) := by
  intro fs
  induction fs with
  | nil =>
    intro off ls h _
    injection h with h
    subst h
    trivial
  | cons f fs ih =>
    intro off ls h hf
    unfold joinF at h
    split at h
    · rename_i ho
      cases hl : L f.type with
      | none => rw [hl] at h; cases h
      | some l1 =>
        rw [hl] at h
        simp only [Option.bind_some] at h
        split at h
        · rename_i hc
          cases hj : joinF P L fs (off + l1.length) with
          | none => rw [hj] at h; cases h
          | some l2 =>
            rw [hj] at h
            simp only [Option.map_some, Option.some.injEq] at h
            subst h
            rw [List.length_append, take_two]
            refine (hL _ _ _ hl ?_).app (ih _ _ hj fun g hg => hf g (List.mem_cons_of_mem _ hg))
            have := hf f (List.mem_cons_self ..)
            rw [ho, ← hc] at this
            exact this
        · cases h
    · cases h

theorem arr_ok (cs : List Value) (l1 : List Leaf) : ∀ (m off : Nat), (∀ i, i < m → Leaves w l1 ((cs.drop (off + i * l1.length)).take l1.length)) → Leaves w (List.replicate m l1).flatten ((cs.drop off).take (m * l1.length)) := by
  intro m
  induction m with
  | zero =>
    intro off _
    rw [Nat.zero_mul]
    trivial
  | succ m ih =>
    intro off h
    rw [List.replicate_succ, List.flatten_cons, Nat.succ_mul, Nat.add_comm, take_two]
    have h0 := h 0 (by omega)
    rw [Nat.zero_mul, Nat.add_zero] at h0
    refine h0.app (ih _ fun i hi => ?_)
    have := h (i + 1) (by omega)
    rw [Nat.succ_mul] at this
    rw [show off + l1.length + i * l1.length = off + (i * l1.length + l1.length) by omega]
    exact this

theorem trod_leaves : ∀ (n : Nat) (t : TypeId) (ls : List Leaf), leaves P n t = some ls → ∀ (fuel : Nat) (cs : List Value), (∃ x, DataW.trod enc P w base spare held fuel t cs = some x) → Leaves w ls cs := by
  intro n
  induction n with
  | zero => intro t ls h; cases h
  | succ n ih =>
    intro t ls h fuel cs hx
    obtain ⟨x, hx⟩ := hx
    unfold leaves at h
    split at h
    · rename_i hu
      injection h with h
      subst h
      obtain ⟨b, rfl, _⟩ := DataW.trod_bool hu hx
      exact ⟨⟨b, rfl⟩, trivial⟩
    · rename_i k hu
      injection h with h
      subst h
      obtain ⟨z, rfl, _, hw⟩ := DataW.trod_int hu hx
      exact ⟨⟨z, rfl, hw⟩, trivial⟩
    · rename_i e hu
      split at h
      · rename_i he
        split at h
        · rename_i hc
          injection h with h
          subst h
          rcases open_slice hu hx with ⟨rfl, _⟩ | ⟨a, len, cap, m, nf, D, Pl, rfl, _⟩
          · exact ⟨⟨[], Bs.nil w⟩, trivial⟩
          · obtain ⟨bs, hbs, _⟩ := rd_bs hu he hc hx
            exact ⟨⟨bs, hbs⟩, trivial⟩
        · cases h
      · cases h
    · rename_i fs hu
      obtain ⟨xs, n2, rfl, _, hl, hlen, hff⟩ := DataW.trod_struct hu hx
      cases hj : joinF P (leaves P n) fs.toList 0 with
      | none => rw [hj] at h; cases h
      | some l1 =>
        rw [hj] at h
        simp only [Option.bind_some] at h
        split at h
        · rename_i hc
          injection h with h
          subst h
          have := joinF_ok (enc := enc) (base := base) (spare := spare) (held := held) (n := n2) cs (fun t ls cs' h hy => ih t ls h n2 cs' hy) fs.toList 0 l1 hj (fun f hf => by
            obtain ⟨i, hi⟩ := List.mem_iff_getElem?.1 hf
            have h1 := hff i f (by simpa using hi)
            have h2 : i < xs.length := by rw [hlen]; have := (List.getElem?_eq_some_iff.1 hi).1; simpa using this
            rw [List.getElem?_eq_getElem h2] at h1
            exact ⟨_, h1⟩)
          rw [List.drop_zero, List.take_of_length_le (by omega)] at this
          exact this
        · cases h
    · rename_i m e hu
      obtain ⟨n2, hl, hff⟩ := trod_array hu hx
      cases hj : leaves P n e with
      | none => rw [hj] at h; cases h
      | some l1 =>
        rw [hj] at h
        simp only [Option.bind_some] at h
        split at h
        · rename_i hc
          injection h with h
          subst h
          have := arr_ok (w := w) cs l1 m 0 (fun i hi => by
            obtain ⟨y, hy⟩ := hff i hi
            rw [Nat.zero_add, hc.1]
            exact ih e l1 hj n2 _ ⟨y, hy⟩)
          rw [List.drop_zero, List.take_of_length_le (by omega)] at this
          exact this
        · cases h
    · cases h

/-- a slice of structs -/
theorem rd_structs {α : Type} (cells : α → List Value) (ok : α → Prop) (n : Nat) {T E : TypeId} {size fuel : Nat} {ls : List Leaf} {v : Value} {x : DataW H × List MemPlace} (ht : P.underlying T = some (.slice E)) (hls : leaves P n E = some ls) (hc : P.cellsOf E = size) (hp : 0 < size)
    (hconv : ∀ cs, Leaves w ls cs → ∃ a, cs = cells a ∧ ok a)
    (h : DataW.trod enc P w base spare held fuel T [v] = some x) :
    ∃ l : List α, RowN w size v l.length (l.flatMap cells) ∧ ∀ a ∈ l, ok a := by
  obtain ⟨k, xs, hr, hx, _⟩ := rd_row ht hc hp h
  have hel : ∀ i, i < k → ∃ a, (xs.drop (i * size)).take size = cells a ∧ ok a := fun i hi => by
    obtain ⟨m, y, hy⟩ := hx i hi
    exact hconv _ (trod_leaves n E ls hls m _ ⟨y, hy⟩)
  have hlen : xs.length = k * size := hr.1
  have key : ∀ (k : Nat) (xs : List Value), xs.length = k * size → (∀ i, i < k → ∃ a, (xs.drop (i * size)).take size = cells a ∧ ok a) → ∃ l : List α, l.length = k ∧ xs = l.flatMap cells ∧ ∀ a ∈ l, ok a := by
    intro k
    induction k with
    | zero =>
      intro xs hl _
      rw [Nat.zero_mul] at hl
      exact ⟨[], rfl, List.length_eq_zero_iff.1 hl, fun a ha => (by cases ha)⟩
    | succ k ih =>
      intro xs hl he
      rw [Nat.succ_mul] at hl
      obtain ⟨a, ha, hoa⟩ := he 0 (by omega)
      rw [Nat.zero_mul, List.drop_zero] at ha
      obtain ⟨l, hl1, hl2, hl3⟩ := ih (xs.drop size) (by rw [List.length_drop]; omega) (fun i hi => by
        obtain ⟨b, hb, hob⟩ := he (i + 1) (by omega)
        rw [Nat.succ_mul] at hb
        rw [List.drop_drop, Nat.add_comm]
        exact ⟨b, hb, hob⟩)
      refine ⟨a :: l, by simp [hl1], ?_, ?_⟩
      · rw [List.flatMap_cons, ← ha, ← hl2, List.take_append_drop]
      · intro b hb
        rcases List.mem_cons.1 hb with rfl | hb
        · exact hoa
        · exact hl3 b hb
  obtain ⟨l, hl1, hl2, hl3⟩ := key k xs hlen hel
  subst hl1; subst hl2
  exact ⟨l, hr, hl3⟩

/-- a struct by value, or an array, laid flat -/
theorem rd_agg {r : Reach} {b0 : Nat} (n : Nat) {t : TypeId} {fs : Array Field} {ls : List Leaf} {v : Value} {d : DataW H} {p : List MemPlace} (hs : P.underlying t = some (.struct fs)) (hls : leaves P n t = some ls)
    (hv : Value.okWide P w r b0 t v) (h : DataW.Trod enc P w base spare held t v d p) : ∃ cs : List Value, v = .agg cs.toArray ∧ Leaves w ls cs := by
  obtain ⟨cs, rfl, hsz⟩ := okWide_struct hs hv
  obtain ⟨fuel, hf⟩ := h
  exact ⟨cs.toList, by simp, trod_leaves n t ls hls fuel _ ⟨_, hf⟩⟩
end
end Go.Proofs.Ytgiegiobigdplaa
