/- What came in, opened: from the reading of an argument to what it holds in the world. No program is named here. -/
import Derived.Test.YtgiegiobigdplaaNumSpec
import Derived.Deep.Slices
import Derived.SizedLaws
import Derived.ProofKit
import Derived.OpenShut
import Derived.ShutString
import Derived.ChangeOld
namespace Go.Proofs.Ytgiegiobigdplaa
open Go Go.RowKit Go.ChangeShapes Go.WideShapes Go.Deep

section
variable {H : Type} {enc : TypeId × Value → H} {P : Program} {w : World} {base : Nat} {spare : Nat → Bool} {held : Bool}

/-- A slice that came in: its cells, and the reading of each element. -/
theorem rd_row {T E : TypeId} {size fuel : Nat} {v : Value} {x : DataW H × List MemPlace} (ht : P.underlying T = some (.slice E)) (hc : P.cellsOf E = size) (hp : 0 < size)
    (h : DataW.trod enc P w base spare held fuel T [v] = some x) :
    ∃ n xs, RowN w size v n xs ∧ (∀ i, i < n → ∃ m y, DataW.trod enc P w base spare held m E ((xs.drop (i * size)).take size) = some y) ∧
      (n = 0 ∨ ∃ elems sp, x.1 = .slice elems sp ∧ elems.length = n) := by
  rcases open_slice ht h with ⟨hcs, hx⟩ | ⟨a, len, cap, m, nf, D, Pl, hcs, hb, hl, hm, hmm, hx, hel⟩
  · simp at hcs
    subst hcs
    exact ⟨0, [], RowN.nil w size, fun i hi => by omega, .inl rfl⟩
  · simp at hcs
    subst hcs
    rw [hc] at hel
    have hlm : len ≤ m := by subst hmm; split <;> omega
    have hcell : ∀ k, k < len * size → ∃ u, w.cell? (a.add k) = some u := by
      intro k hk
      have hi : k / size < len := (Nat.div_lt_iff_lt_mul hp).2 hk
      obtain ⟨cs', h1, h2⟩ := hel (k / size) (by omega)
      obtain ⟨_, hlen, hcs⟩ := World.cells?_some h1
      have hj : k % size < size := Nat.mod_lt _ hp
      have := hcs (k % size) (by omega)
      rw [Go.Deep.add_add, Nat.div_add_mod', List.getElem?_eq_getElem (by omega)] at this
      exact ⟨_, this⟩
    obtain ⟨V, hV⟩ := choose_lt (α := Value) (p := fun k u => w.cell? (a.add k) = some u) hcell
    have hlenx : ((List.range (len * size)).map V).length = len * size := by simp
    refine ⟨len, (List.range (len * size)).map V, ⟨hlenx, some a, cap, rfl, hl, hm, ?_⟩, fun i hi => ?_, .inr ⟨_, _, by rw [hx], by simp⟩⟩
    · rcases Nat.eq_zero_or_pos len with h0 | h0
      · exact .inl h0
      · right
        have h00 := hV 0 (Nat.mul_pos h0 hp)
        obtain ⟨b, off, spot⟩ := a
        have hspot : spot = none := by
          have := World.cell?_spot h00
          simpa [Addr.add] using this
        subst hspot
        refine ⟨b, off, rfl, fun i x hx => ?_⟩
        have hi : i < len * size := by
          have := (List.getElem?_eq_some_iff.1 hx).1
          simpa using this
        have := hV i hi
        rw [add_off] at this
        rw [this]
        simpa [hi] using hx
    · obtain ⟨cs', h1, h2⟩ := hel i (by omega)
      obtain ⟨_, hlen, hcs⟩ := World.cells?_some h1
      have he : ((((List.range (len * size)).map V).drop (i * size)).take size) = cs' := by
        apply List.ext_getElem?
        intro j
        by_cases hj : j < size
        · have hij : i * size + j < len * size := by
            have : (i + 1) * size ≤ len * size := Nat.mul_le_mul_right _ hi
            rw [Nat.add_mul] at this
            omega
          have h3 := hcs j (by omega)
          rw [Go.Deep.add_add, hV _ hij] at h3
          rw [List.getElem?_take, if_pos hj, List.getElem?_drop, List.getElem?_map, List.getElem?_range hij]
          simp only [Option.map_some]
          rw [h3]
        · rw [List.getElem?_eq_none (by simp; omega), List.getElem?_eq_none (by omega)]
      rw [he]
      exact ⟨nf, _, h2⟩

theorem take1 {α : Type} {xs : List α} {i : Nat} (h : i < xs.length) : (xs.drop (i * 1)).take 1 = [xs[i]] := by
  rw [Nat.mul_one, List.drop_eq_getElem_cons h]; rfl

/-- bytes -/
theorem rd_bs {T E : TypeId} {fuel : Nat} {v : Value} {x : DataW H × List MemPlace} (ht : P.underlying T = some (.slice E)) (he : P.underlying E = some (.int .u8)) (hc : P.cellsOf E = 1)
    (h : DataW.trod enc P w base spare held fuel T [v] = some x) : ∃ bs, Bs w v bs ∧ (bs.length = 0 ∨ ∃ elems sp, x.1 = .slice elems sp ∧ elems.length = bs.length) := by
  obtain ⟨n, xs, hr, hx, hd⟩ := rd_row ht hc (by decide) h
  have hlen : xs.length = n := by have := hr.1; omega
  have hel : ∀ i, (hi : i < xs.length) → ∃ b : UInt8, xs[i] = u8v b := by
    intro i hi
    obtain ⟨m, y, hy⟩ := hx i (by omega)
    rw [take1 hi] at hy
    obtain ⟨z, hz, _, hwf⟩ := DataW.trod_int he hy
    simp at hz
    have h0 : 0 ≤ z ∧ z < 256 := by
      have := hwf
      simp [Lit.wf, IntKind.min, IntKind.max, IntKind.bits, IntKind.signed] at this
      omega
    refine ⟨UInt8.ofNat z.toNat, ?_⟩
    rw [hz, u8v]
    congr 1
    simp
    omega
  have hmap : ∃ bs : List UInt8, xs = bs.map u8v := by
    clear hr hx hd hlen
    induction xs with
    | nil => exact ⟨[], rfl⟩
    | cons a xs ih =>
      obtain ⟨b, hb⟩ := hel 0 (by simp)
      obtain ⟨bs, hbs⟩ := ih (fun i hi => by have := hel (i + 1) (by simp; omega); simpa using this)
      exact ⟨b :: bs, by simp at hb; rw [hb, hbs]; rfl⟩
  obtain ⟨bs, rfl⟩ := hmap
  have hbl : bs.length = n := by simpa using hlen
  subst hbl
  exact ⟨bs, hr, hd⟩

/-- numbers of 64 bits -/
theorem rd_u64s {T E : TypeId} {fuel : Nat} {v : Value} {x : DataW H × List MemPlace} (ht : P.underlying T = some (.slice E)) (he : P.underlying E = some (.int .u64)) (hc : P.cellsOf E = 1)
    (h : DataW.trod enc P w base spare held fuel T [v] = some x) : ∃ l, U64s w v l ∧ (l.length = 0 ∨ ∃ elems sp, x.1 = .slice elems sp ∧ elems.length = l.length) := by
  obtain ⟨n, xs, hr, hx, hd⟩ := rd_row ht hc (by decide) h
  have hlen : xs.length = n := by have := hr.1; omega
  have hel : ∀ i, (hi : i < xs.length) → ∃ b : Nat, b < 18446744073709551616 ∧ xs[i] = .int .u64 (b : Int) := by
    intro i hi
    obtain ⟨m, y, hy⟩ := hx i (by omega)
    rw [take1 hi] at hy
    obtain ⟨z, hz, _, hwf⟩ := DataW.trod_int he hy
    simp at hz
    have h0 : 0 ≤ z ∧ z < 18446744073709551616 := by
      have := hwf
      simp [Lit.wf, IntKind.min, IntKind.max, IntKind.bits, IntKind.signed] at this
      omega
    refine ⟨z.toNat, by omega, ?_⟩
    rw [hz]
    congr 1
    omega
  have hmap : ∃ l : List Nat, xs = (l.map fun (x : Nat) => Value.int .u64 (x : Int)) ∧ ∀ x ∈ l, x < 18446744073709551616 := by
    clear hr hx hd hlen
    induction xs with
    | nil => exact ⟨[], rfl, by simp⟩
    | cons a xs ih =>
      obtain ⟨b, hb1, hb⟩ := hel 0 (by simp)
      obtain ⟨bs, hbs, hbs2⟩ := ih (fun i hi => by have := hel (i + 1) (by simp; omega); simpa using this)
      refine ⟨b :: bs, by simp at hb; rw [hb, hbs]; rfl, ?_⟩
      intro x hx
      rcases List.mem_cons.1 hx with rfl | hx
      · exact hb1
      · exact hbs2 x hx
  obtain ⟨l, rfl, hl⟩ := hmap
  have hbl : l.length = n := by simpa using hlen
  subst hbl
  exact ⟨l, ⟨hr, hl⟩, hd⟩

/-- rows of bytes -/
theorem rd_rows {T R E : TypeId} {fuel : Nat} {v : Value} {x : DataW H × List MemPlace} (ht : P.underlying T = some (.slice R)) (hR : P.underlying R = some (.slice E)) (he : P.underlying E = some (.int .u8))
    (hcR : P.cellsOf R = 1) (hc : P.cellsOf E = 1)
    (h : DataW.trod enc P w base spare held fuel T [v] = some x) : ∃ rows, Rows8 w v rows := by
  obtain ⟨n, xs, hr, hx, hd⟩ := rd_row ht hcR (by decide) h
  have hlen : xs.length = n := by have := hr.1; omega
  have hel : ∀ i, (hi : i < xs.length) → ∃ bs, Bs w xs[i] bs := by
    intro i hi
    obtain ⟨m, y, hy⟩ := hx i (by omega)
    rw [take1 hi] at hy
    obtain ⟨bs, hbs, _⟩ := rd_bs hR he hc hy
    exact ⟨bs, hbs⟩
  have hmap : ∃ rows : List (List UInt8), rows.length = xs.length ∧ ∀ (i : Nat) x r, xs[i]? = some x → rows[i]? = some r → Bs w x r := by
    clear hr hx hd hlen
    induction xs with
    | nil => exact ⟨[], rfl, by simp⟩
    | cons a xs ih =>
      obtain ⟨b, hb⟩ := hel 0 (by simp)
      obtain ⟨bs, hbs, hbs2⟩ := ih (fun i hi => by have := hel (i + 1) (by simp; omega); simpa using this)
      refine ⟨b :: bs, by simp [hbs], ?_⟩
      intro i x r h1 h2
      match i with
      | 0 => simp at h1 h2 hb; subst h1; subst h2; exact hb
      | i + 1 => simp at h1 h2; exact hbs2 i x r h1 h2
  obtain ⟨rows, hl, hrows⟩ := hmap
  have : rows.length = n := by omega
  subst this
  exact ⟨rows, xs, hr, hrows⟩
end

/-- the reach, of an argument that is a slice of bytes or numbers -/
theorem reach_le {P : Program} {H : Type} {ts : List TypeId} {ds : List (DataW H)} (h : (DataW.weightsEach P ts ds).all (· ≤ reachBytes) = true) {j : Nat} {t e : TypeId} {d : DataW H} (hd : ds[j]? = some d) (ht : ts[j]? = some t)
    (hu : P.underlying t = some (.slice e)) (hb : 1 ≤ P.bytesOf e) {n : Nat} (hn : n = 0 ∨ ∃ elems sp, d = .slice elems sp ∧ elems.length = n) : n ≤ 140737488351232 := by
  rcases hn with rfl | ⟨elems, sp, rfl, rfl⟩
  · omega
  · have := sized_slice h ht hd hu
    unfold reachBytes at this
    have h2 : (elems.length + sp.length) * 1 ≤ (elems.length + sp.length) * P.bytesOf e := Nat.mul_le_mul_left _ hb
    omega
end Go.Proofs.Ytgiegiobigdplaa
