/- The calls of a play that came in, opened: with the reach of each call's bytes. -/
import Derived.Test.YtgiegiobigdplaaVnetPlaysW
import Derived.Test.YtgiegiobigdplaaLeaves
namespace Go.Proofs.Ytgiegiobigdplaa
open Go Go.RowKit Go.ChangeShapes Go.WideShapes Go.Deep
set_option maxRecDepth 100000

section
variable {H : Type} {enc : TypeId × Value → H} {P : Program} {w : World} {base : Nat} {spare : Nat → Bool} {held : Bool}

theorem weightsAll_mem {e : TypeId} : ∀ {ds : List (DataW H)} {d : DataW H} {k : Nat}, d ∈ ds → k ∈ d.weights P e → k ∈ DataW.weightsAll P e ds
  | x :: r, d, k, hd, hk => by
    rw [DataW.weightsAll, List.mem_append]
    rcases List.mem_cons.1 hd with rfl | hd
    · exact .inl hk
    · exact .inr (weightsAll_mem hd hk)
  | [], _, _, hd, _ => by cases hd

/-- a slice of structs, each read with its weights -/
theorem rd_structsW {α : Type} [Inhabited α] (cells : α → List Value) (ok : α → Prop) {T E : TypeId} {size fuel : Nat} {v : Value} {x : DataW H × List MemPlace} (ht : P.underlying T = some (.slice E)) (hc : P.cellsOf E = size) (hp : 0 < size)
    (hconv : ∀ cs m y, DataW.trod enc P w base spare held m E cs = some y → (∀ k ∈ y.1.weights P E, k ∈ x.1.weights P T) → ∃ a, cs = cells a ∧ ok a)
    (h : DataW.trod enc P w base spare held fuel T [v] = some x) :
    ∃ l : List α, RowN w size v l.length (l.flatMap cells) ∧ ∀ a ∈ l, ok a := by
  rcases open_slice ht h with ⟨hcs, hx⟩ | ⟨a, len, cap, m, nf, D, Pl, hcs, hb, hl, hm, hmm, hx, hel⟩
  · simp at hcs
    subst hcs
    exact ⟨[], RowN.nil w size, fun a ha => by cases ha⟩
  · simp at hcs
    subst hcs
    rw [hc] at hel
    have hlm : len ≤ m := by subst hmm; split <;> omega
    have hsub : ∀ i, i < len → ∀ k ∈ (D i).weights P E, k ∈ x.1.weights P T := fun i hi k hk => by
      rw [hx]
      simp only [DataW.weights, ht, List.mem_cons, List.mem_append]
      exact .inr (.inl (weightsAll_mem (List.mem_map.2 ⟨i, List.mem_range.2 hi, rfl⟩) hk))
    obtain ⟨A, hA⟩ := choose_lt (n := len) (α := List Value × α) (p := fun i b => w.cells? base (a.add (i * size)) size = some b.1 ∧ b.1 = cells b.2 ∧ ok b.2) (fun i hi => by
      obtain ⟨cs', h1, h2⟩ := hel i (by omega)
      obtain ⟨b, hb, hob⟩ := hconv cs' nf _ h2 (hsub i hi)
      exact ⟨(cs', b), h1, hb, hob⟩)
    have hlen : ∀ i, i < len → (cells (A i).2).length = size := fun i hi => by
      obtain ⟨h1, h2, _⟩ := hA i hi
      obtain ⟨_, hlen, _⟩ := World.cells?_some h1
      rw [← h2]
      exact hlen
    have hcell : ∀ i j x, i < len → (cells (A i).2)[j]? = some x → w.cell? (a.add (i * size + j)) = some x := fun i j x hi hx => by
      obtain ⟨h1, h2, _⟩ := hA i hi
      obtain ⟨_, hl3, hcs⟩ := World.cells?_some h1
      have hj : j < size := by have := (List.getElem?_eq_some_iff.1 hx).1; rw [hlen i hi] at this; exact this
      have := hcs j hj
      rw [Go.Deep.add_add, h2, hx] at this
      exact this
    have hfl : ∀ (n : Nat) (B : Nat → α), (∀ i, i < n → (cells (B i)).length = size) → (((List.range n).map B).flatMap cells).length = n * size ∧ ∀ k x, (((List.range n).map B).flatMap cells)[k]? = some x → ∃ i j, i < n ∧ k = i * size + j ∧ (cells (B i))[j]? = some x := by
      intro n
      induction n with
      | zero => exact fun B _ => ⟨by simp, fun k x hx => by simp at hx⟩
      | succ n ih =>
        intro B hB
        obtain ⟨i1, i2⟩ := ih B (fun i hi => hB i (by omega))
        rw [List.range_succ, List.map_append, List.flatMap_append]
        simp only [List.map_cons, List.map_nil, List.flatMap_cons, List.flatMap_nil, List.append_nil]
        refine ⟨by rw [List.length_append, i1, hB n (by omega), Nat.succ_mul], fun k x hx => ?_⟩
        by_cases hk : k < n * size
        · rw [List.getElem?_append_left (by omega)] at hx
          obtain ⟨i, j, h1, h2, h3⟩ := i2 k x hx
          exact ⟨i, j, by omega, h2, h3⟩
        · rw [List.getElem?_append_right (by omega), i1] at hx
          exact ⟨n, k - n * size, by omega, by omega, hx⟩
    obtain ⟨f1, f2⟩ := hfl len (fun i => (A i).2) hlen
    refine ⟨(List.range len).map (fun i => (A i).2), ⟨by rw [f1]; simp, some a, cap, by simp, by simpa using hl, hm, ?_⟩, fun b hb => ?_⟩
    · rcases Nat.eq_zero_or_pos len with h0 | h0
      · exact .inl (by simpa using h0)
      · right
        have hl0 := hlen 0 h0
        have h00 := hcell 0 0 _ h0 (List.getElem?_eq_getElem (by rw [hl0]; exact hp))
        obtain ⟨b, off, spot⟩ := a
        have hspot : spot = none := by
          have := World.cell?_spot h00
          simpa [Addr.add] using this
        subst hspot
        refine ⟨b, off, rfl, fun k x hx => ?_⟩
        obtain ⟨i, j, h1, h2, h3⟩ := f2 k x hx
        have := hcell i j x h1 h3
        rw [add_off] at this
        rw [h2]
        exact this
    · obtain ⟨i, hi, rfl⟩ := List.mem_map.1 hb
      exact (hA i (List.mem_range.1 hi)).2.2

/-- a field of a struct that is a slice of bytes, with its reach -/
theorem rd_fieldBs {t e : TypeId} {fs : Array Field} {j fuel : Nat} {f : Field} {cs : List Value} {c : Value} {x : DataW H × List MemPlace} (ht : P.underlying t = some (.struct fs)) (hf : fs[j]? = some f) (hu : P.underlying f.type = some (.slice e)) (he : P.underlying e = some (.int .u8)) (hce : P.cellsOf e = 1) (hcf : P.cellsOf f.type = 1) (hb : 1 ≤ P.bytesOf e)
    (h : DataW.trod enc P w base spare held fuel t cs = some x) (hw : ∀ k ∈ x.1.weights P t, k ≤ reachBytes) (hc : cs[f.offset]? = some c) : ∃ bs, Bs w c bs ∧ bs.length ≤ 140737488351232 := by
  obtain ⟨xs, n, _, hx, hl, hlen, hff⟩ := DataW.trod_struct ht h
  have h1 := hff j f hf
  have hj : j < xs.length := by rw [hlen]; exact (Array.getElem?_eq_some_iff.1 hf).1
  obtain ⟨hlt, hcc⟩ := List.getElem?_eq_some_iff.1 hc
  rw [hcf, List.drop_eq_getElem_cons hlt, hcc, List.getElem?_eq_getElem hj] at h1
  obtain ⟨bs, h2, h3⟩ := rd_bs hu he hce (show DataW.trod enc P w base spare held n f.type [c] = some xs[j] from h1)
  refine ⟨bs, h2, ?_⟩
  rcases h3 with h3 | ⟨elems, sp, h3, h4⟩
  · omega
  · have hm : ∀ k ∈ (xs[j]).1.weights P f.type, k ≤ reachBytes := fun k hk => hw k (by
      rw [hx]
      simp only [DataW.weights, ht]
      exact DataW.weights_mem_each (j := j) (t := f.type) (d := (xs[j]).1) (by rw [List.getElem?_map, Array.getElem?_toList, hf]; rfl) (by rw [List.getElem?_map, List.getElem?_eq_getElem hj]; rfl) k hk)
    have := hm ((elems.length + sp.length) * P.bytesOf e) (by rw [h3]; simp [DataW.weights, hu])
    unfold reachBytes at this
    have h5 : (elems.length + sp.length) * 1 ≤ (elems.length + sp.length) * P.bytesOf e := Nat.mul_le_mul_left _ hb
    omega
end

instance : Inhabited PCall := ⟨⟨0, 0, 0, [], .bool false⟩⟩
def pcallLeaves : List Leaf := [.int .i64, .int .i64, .int .i64, .bytes]
theorem pc64_of {z : Int} (h : (Lit.int .i64 z).wf = true) : -9223372036854775808 ≤ z ∧ z ≤ 9223372036854775807 := by
  simp [Lit.wf, IntKind.min, IntKind.max, IntKind.bits, IntKind.signed] at h
  omega

/-- the calls that came in -/
theorem rd_calls {H : Type} {enc : TypeId × Value → H} {w : World} {base : Nat} {spare : Nat → Bool} {held : Bool} {fuel : Nat} {v : Value} {x : DataW H × List MemPlace}
    (h : DataW.trod enc Try.prog w base spare held fuel 22 [v] = some x) (hw : ∀ k ∈ x.1.weights Try.prog 22, k ≤ reachBytes) :
    ∃ l : List PCall, RowN w 4 v l.length (pcCells l) ∧ ∀ c ∈ l, PCall.Ok w c := by
  refine rd_structsW PCall.cells (PCall.Ok w) (size := 4) Try.underlying22 (by kernel_rfl) (by decide) (fun cs m y hy hsub => ?_) h
  have hl := trod_leaves (enc := enc) (P := Try.prog) (w := w) (base := base) (spare := spare) (held := held) 9 40 pcallLeaves (by kernel_rfl) m cs ⟨y, hy⟩
  obtain ⟨_, r0, rfl, ⟨z0, rfl, w0⟩, h1⟩ := hl.cons
  obtain ⟨_, r1, rfl, ⟨z1, rfl, w1⟩, h2⟩ := h1.cons
  obtain ⟨_, r2, rfl, ⟨z2, rfl, w2⟩, h3⟩ := h2.cons
  obtain ⟨c3, r3, rfl, _, h4⟩ := h3.cons
  obtain rfl := h4.nil
  obtain ⟨bs, hbs, hle⟩ := rd_fieldBs (j := 3) (c := c3) Try.underlying40 rfl Try.underlying25 Try.underlying5 (by kernel_rfl) (by kernel_rfl) (of_decide_eq_true (by kernel_rfl)) hy (fun k hk => hw k (hsub k hk)) rfl
  exact ⟨⟨z0, z1, z2, bs, c3⟩, rfl, pc64_of w0, pc64_of w1, pc64_of w2, hbs, hle⟩
end Go.Proofs.Ytgiegiobigdplaa
