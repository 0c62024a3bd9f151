/- A slice that lies anywhere in a block that the call owns: append, and what is cut off ahead. No program is named here. -/
import Derived.Test.YtgiegiobigdplaaRegion2
import Derived.Deep.RegionLaw
import Derived.Deep.Upon
import Derived.ArgAppend
namespace Go.Proofs.Ytgiegiobigdplaa
section
open Go Go.RowKit

def setAll : List Value → Nat → List Value → List Value
  | xs, _, [] => xs
  | xs, o, v :: r => setAll (xs.set o v) (o + 1) r
theorem setAll_len (vs : List Value) : ∀ (xs : List Value) (o : Nat), (setAll xs o vs).length = xs.length := by
  induction vs with
  | nil => intro xs o; rfl
  | cons v r ih => intro xs o; simp [setAll, ih]
theorem setAll_eq (vs : List Value) : ∀ (xs : List Value) (o : Nat), o + vs.length ≤ xs.length → setAll xs o vs = xs.take o ++ vs ++ xs.drop (o + vs.length) := by
  induction vs with
  | nil => intro xs o h; simp [setAll]
  | cons v r ih =>
    intro xs o h
    simp only [List.length_cons] at h
    have ho : o < xs.length := by omega
    rw [setAll, ih (xs.set o v) (o + 1) (by simp; omega)]
    have e1 : (xs.set o v).take (o + 1) = xs.take o ++ [v] := by
      rw [List.set_eq_take_append_cons_drop, if_pos ho, show o + 1 = (xs.take o).length + 1 by simp; omega]
      simp [List.take_append]
      exact List.take_of_length_le (by simp <;> omega)
    have e2 : (xs.set o v).drop (o + 1 + r.length) = xs.drop (o + (v :: r).length) := by
      rw [List.drop_set, if_pos (by omega)]
      congr 1
      simp; omega
    rw [e1, e2]
    simp
theorem Blk.setCells {g : Nat} {t : TypeId} (vs : List Value) : ∀ {w : World} {xs : List Value} (o : Nat), Blk w g t xs → Blk (w.setCells g o vs) g t (setAll xs o vs) := by
  induction vs with
  | nil => intro w xs o h; exact h
  | cons v r ih => intro w xs o h; exact ih (o + 1) (h.set_ o v)
theorem grown_setCells (g : Nat) (vs : List Value) : ∀ (w : World) (o : Nat), w.grownBy (w.setCells g o vs) (some g) := by
  induction vs with
  | nil => intro w o; exact ⟨rfl, rfl, rfl, Nat.le_refl _, fun _ _ _ => rfl⟩
  | cons v r ih => intro w o; exact grown_trans (grown_set w g o v) (ih _ _)
theorem grown_drew (w : World) (r : Option Nat) : w.grownBy w.drew r := ⟨rfl, rfl, rfl, Nat.le_refl _, fun _ _ _ => rfl⟩
/-- one element taken out of the first n of a row of one-cell elements; what stood last becomes z -/
theorem erase_take (xs : List Value) (n i : Nat) (z : Value) (hi : i < n) (hn : n ≤ xs.length) :
    (setAll (setAll xs i ((xs.take n).drop (i + 1))) (n - 1) [z]).take (n - 1) = (xs.take n).eraseIdx i := by
  have hl : ((xs.take n).drop (i + 1)).length = n - (i + 1) := by simp; omega
  rw [setAll_eq _ _ _ (by rw [setAll_len]; simp; omega), List.append_assoc, List.take_left' (by simp [setAll_len]; omega), setAll_eq _ _ _ (by rw [hl]; omega), hl]
  rw [List.take_left' (by simp; omega), List.eraseIdx_eq_take_drop_succ, List.take_take, Nat.min_eq_left (by omega)]
end
section
open Go Go.RowKit

def RowAtS (w : World) (base : Nat) (e : TypeId) (size : Nat) (v : Value) (n : Nat) (xs : List Value) : Prop :=
  xs.length = n * size ∧ ((v = .slice none 0 0 ∧ n = 0) ∨ ∃ g off cap cur, v = .slice (some ⟨g, off, none⟩) n cap ∧ base ≤ g ∧ Blk w g e cur ∧ n ≤ cap ∧ off + cap * size ≤ cur.length ∧ cap ≤ maxLen ∧ (cur.drop off).take (n * size) = xs)

section
variable {w w' : World} {base size n : Nat} {e : TypeId} {v : Value} {xs : List Value}
theorem RowAtS.of_own (h : w.ownsRow base e size v n xs) : RowAtS w base e size v n xs := by
  refine ⟨h.1, ?_⟩
  rcases h.2 with hn | ⟨g, cap, cur, rfl, hb, hg, h1, h2, h3, h4⟩
  · exact .inl hn
  · exact .inr ⟨g, 0, cap, cur.toList, rfl, hb, by unfold Blk; simpa using hg, h1, by simp; omega, h2, by simpa using h4⟩
theorem RowAtS.rowN (h : RowAtS w base e size v n xs) : RowN w size v n xs := by
  refine ⟨h.1, ?_⟩
  rcases h.2 with ⟨rfl, rfl⟩ | ⟨g, off, cap, cur, rfl, _, hb, h1, h2, h3, h4⟩
  · exact ⟨none, 0, rfl, Nat.le_refl _, Nat.zero_le _, .inl rfl⟩
  · refine ⟨some ⟨g, off, none⟩, cap, rfl, h1, h3, .inr ⟨g, off, rfl, fun i x hx => ?_⟩⟩
    have hi : i < n * size := by have := (List.getElem?_eq_some_iff.1 hx).1; rw [h.1] at this; exact this
    rw [hb.cell, ← List.getElem?_drop, ← List.getElem?_take_of_lt (j := n * size) hi, h4]
    exact hx
theorem RowAtS.keep (h : RowAtS w base e size v n xs) (hb : Below w.heap.size w w') : RowAtS w' base e size v n xs := by
  refine ⟨h.1, ?_⟩
  rcases h.2 with h | ⟨g, off, cap, cur, h0, h1, h2, h3⟩
  · exact .inl h
  · exact .inr ⟨g, off, cap, cur, h0, h1, h2.keep hb, h3⟩
theorem RowAtS.mono {base' : Nat} (h : RowAtS w base e size v n xs) (hb : base' ≤ base) : RowAtS w base' e size v n xs := by
  refine ⟨h.1, ?_⟩
  rcases h.2 with h | ⟨g, off, cap, cur, h0, h1, h2⟩
  · exact .inl h
  · exact .inr ⟨g, off, cap, cur, h0, Nat.le_trans hb h1, h2⟩
theorem RowAtS.nil (w : World) (base : Nat) (e : TypeId) (size : Nat) : RowAtS w base e size (.slice none 0 0) 0 [] := ⟨by simp, .inl ⟨rfl, rfl⟩⟩
theorem RowAtS.ne {g : Nat} {t : TypeId} {ys : List Value} (h : RowAtS w base e size v n xs) (hb : Blk w g t ys) (ht : t ≠ e) : v.ownBlock ≠ some g := by
  rcases h.2 with ⟨rfl, _⟩ | ⟨g2, off, cap, cur, rfl, _, hh, _⟩
  · simp [Value.ownBlock]
  · intro e2
    simp [Value.ownBlock] at e2
    subst e2
    unfold Blk at hb hh
    rw [hb] at hh
    injection hh with hh
    injection hh with _ h3
    exact ht h3
theorem RowAtS.lt {g : Nat} (h : RowAtS w base e size v n xs) (hg : v.ownBlock = some g) : base ≤ g ∧ g < w.heap.size := by
  rcases h.2 with ⟨rfl, _⟩ | ⟨g2, off, cap, cur, rfl, hb, hh, _⟩
  · simp [Value.ownBlock] at hg
  · simp [Value.ownBlock] at hg
    subst hg
    exact ⟨hb, hh.lt⟩
theorem RowAtS.kept {row : Option Nat} (h : RowAtS w base e size v n xs) (hg : w.grownBy w' row) (hne : ∀ g, v.ownBlock = some g → some g ≠ row) : RowAtS w' base e size v n xs := by
  refine ⟨h.1, ?_⟩
  rcases h.2 with h | ⟨g2, off, cap, cur, rfl, hb, hh, hr⟩
  · exact .inl h
  · exact .inr ⟨g2, off, cap, cur, rfl, hb, hh.grown hg (hne g2 rfl), hr⟩
/-- the first l cut off -/
theorem RowAtS.from_ {A : Option Addr} {cap l : Nat} (h : RowAtS w base e size (.slice A n cap) n xs) (hl : l ≤ n) : RowAtS w base e size (.slice (cutA A cap l size) (n - l) (cap - l)) (n - l) (xs.drop (l * size)) := by
  refine ⟨by rw [List.length_drop, h.1, Nat.sub_mul], ?_⟩
  rcases h.2 with ⟨hv, rfl⟩ | ⟨g, off, cap', cur, hv, hb, hh, h1, h2, h3, h4⟩
  · injection hv with e1 e2 e3
    subst e1; subst e3
    obtain rfl : l = 0 := by omega
    exact .inl ⟨by simp [cutA], by omega⟩
  · injection hv with e1 e2 e3
    subst e1; subst e3
    unfold cutA
    by_cases hc : cap = l
    · rw [if_pos hc]
      refine .inr ⟨g, off, cap - l, cur, rfl, hb, hh, by omega, ?_, by omega, ?_⟩
      · have : (cap - l) * size ≤ cap * size := Nat.mul_le_mul_right _ (by omega)
        omega
      · have : n - l = 0 := by omega
        rw [this, Nat.zero_mul, List.take_zero, ← h4]
        have e5 : n = l := by omega
        subst e5
        rw [List.drop_of_length_le (by simp; omega)]
    · rw [if_neg hc, Option.map_some, add_off]
      have hm : (cap - l) * size + l * size = cap * size := by rw [← Nat.add_mul]; congr 1; omega
      refine .inr ⟨g, off + l * size, cap - l, cur, rfl, hb, hh, by omega, by omega, by omega, ?_⟩
      rw [← h4, ← List.drop_drop, List.drop_take, Nat.sub_mul]
end

theorem run_app_atS {P : Program} (w : World) (base : Nat) (T E ty : TypeId) (z : Value) (size bytes : Nat) (he : ElemOk P T E z size bytes)
    (v : Value) (n : Nat) (xs : List Value) (hown : RowAtS w base E size v n xs) (x : Value) (m : Nat) (ys : List Value) (hr : RowN w size x m ys) (h1 : ∀ u ∈ ys, u.oneCell' = true)
    (hm0 : 0 < m) (hb : (n + m) * bytes ≤ 200000000000000) (h63 : n + m ≤ maxLen) (hbase : base ≤ w.heap.size) :
    ∃ v' w', (Builtin.append_ #[T, T] ty #[v, x]).run P w = .ok v' w' ∧ RowAtS w' base E size v' (n + m) (xs ++ ys) ∧ w.grownBy w' v.ownBlock ∧ (v'.ownBlock = v.ownBlock ∨ v'.ownBlock = some w.heap.size) := by
  obtain ⟨ht, ⟨i, hi, hz, hsize, hby⟩, hzs, hsz, hsm⟩ := he
  subst hsize
  subst hby
  obtain ⟨hl, A, c, rfl, hmc, hcm, hA⟩ := hr
  have hsmall : n + m ≤ 9223372036854775807 := by simp only [maxLen] at h63; omega
  have hlen : (xs ++ ys).length = (n + m) * i.size := by rw [List.length_append, hown.1, hl, Nat.add_mul]
  have grown : ∀ (old : Nat), old < n + m → ∀ (row : Option Nat),
      RowAtS (w.drew.alloc (.cells (xs.toArray ++ ys.toArray ++ Builtin.zeroCells z.cells (grownCap w (n + m) old E - (n + m))) E)) base E i.size
        (.slice (some ⟨w.heap.size, 0, none⟩) (n + m) (grownCap w (n + m) old E)) (n + m) (xs ++ ys) ∧
      w.grownBy (w.drew.alloc (.cells (xs.toArray ++ ys.toArray ++ Builtin.zeroCells z.cells (grownCap w (n + m) old E - (n + m))) E)) row := by
    intro old ho row
    have hge := grownCap_ge w (n + m) old E
    have hcm := grownCap_le_maxLen w (n + m) old E h63
    refine ⟨⟨hlen, .inr ⟨w.heap.size, 0, _, _, rfl, hbase, Blk.new w.drew E _, hge, ?_, hcm, ?_⟩⟩, ⟨rfl, rfl, rfl, by simp, fun k hk _ => Below.heap_alloc w.drew _ k hk⟩⟩
    · simp only [Array.toList_append, List.length_append, Array.length_toList, size_zeroCells, hzs, hown.1, hl, ← Nat.add_mul]
      rw [Nat.zero_add]
      exact Nat.mul_le_mul_right _ (by omega)
    · simp only [Array.toList_append, List.drop_zero]
      rw [← hlen]
      exact List.take_left
  rcases hA with hA | ⟨b, off, rfl, hcells⟩
  · omega
  have hnews : ∀ j u, ys[j]? = some u → w.cell? ((⟨b, off, none⟩ : Addr).add j) = some u := fun j u hu => by rw [add_off]; exact hcells j u hu
  rcases hown.2 with ⟨rfl, rfl⟩ | ⟨g, o1, cap, cur, rfl, hbg, hg, hnc, hcs, hcm, htake⟩
  · have hx : xs = [] := List.eq_nil_of_length_eq_zero (by simpa using hown.1)
    subst hx
    have hr := run_append_nil (P := P) w T ty E i z ht hi hz ⟨b, off, none⟩ m c ys hl hnews (by omega) (by omega) (by simp only [Nat.zero_add] at hb; omega)
    have hgr := grown 0 (by omega) (Value.ownBlock (.slice none 0 0))
    simp only [Nat.zero_add, List.nil_append, Array.empty_append] at hgr ⊢
    exact ⟨_, _, hr, hgr.1, hgr.2, .inr rfl⟩
  · by_cases hroom : n + m ≤ cap
    · have hmul : (n + m) * i.size ≤ cap * i.size := Nat.mul_le_mul_right _ hroom
      rw [Nat.add_mul] at hmul
      have hin : ∀ j, j < ys.length → o1 + n * i.size + j < cur.length := fun j hj => by omega
      have hr := run_append_room_cells (P := P) w T ty E i ht hi g o1 n cap ⟨b, off, none⟩ m c ys hl hnews h1 hroom (fun j hj => by rw [hg.cell, List.getElem?_eq_getElem (hin j hj)]; rfl) (fun j hj => hg.frozen _)
      refine ⟨_, _, hr, ⟨hlen, .inr ⟨g, o1, cap, _, rfl, hbg, hg.setCells ys (o1 + n * i.size), hroom, by rw [setAll_len]; exact hcs, hcm, ?_⟩⟩, grown_setCells g ys w _, .inl rfl⟩
      rw [setAll_eq _ _ _ (by omega), List.append_assoc, List.drop_append_of_le_length (by simp; omega), List.drop_take, show o1 + n * i.size - o1 = n * i.size by omega, htake, ← hlen, ← List.append_assoc]
      exact List.take_left
    · have holds : ∀ j u, xs[j]? = some u → w.cell? ((⟨g, o1, none⟩ : Addr).add j) = some u := fun j u hu => by
        rw [add_off]
        have hj : j < n * i.size := by have := (List.getElem?_eq_some_iff.1 hu).1; rw [hown.1] at this; exact this
        rw [hg.cell, ← List.getElem?_drop, ← List.getElem?_take_of_lt (j := n * i.size) hj, htake]
        exact hu
      have hr := run_append_grow (P := P) w T ty E i z ht hi hz ⟨g, o1, none⟩ n cap xs hown.1 holds ⟨b, off, none⟩ m c ys hl hnews (by omega) (by omega) (growslice_fits_wide (by omega) hb hsm)
      have hgr := grown cap (by omega) (Value.ownBlock (.slice (some ⟨g, o1, none⟩) n cap))
      exact ⟨_, _, hr, hgr.1, hgr.2, .inr rfl⟩

theorem wpList_app_atS {P : Program} {w : World} {ops : Array Oper} {rest : List Oper} {o : Oper} {a : Act} {Q : Exit → Act → World → Prop} (hgd : o.guard = none) (s x : Operand) (T : TypeId)
    (ho : o.op = .call { callee := .builtin .append, args := #[s, x], argTypes := #[T, T] })
    (base : Nat) (E : TypeId) (z : Value) (size bytes : Nat) (he : ElemOk P T E z size bytes)
    (v : Value) (n : Nat) (xs : List Value) (hs : a.eval s = v) (hown : RowAtS w base E size v n xs) (y : Value) (m : Nat) (ys : List Value) (hx : a.eval x = y) (hr : RowN w size y m ys) (h1 : ∀ u ∈ ys, u.oneCell' = true)
    (hm0 : 0 < m) (hb : (n + m) * bytes ≤ 200000000000000) (h63 : n + m ≤ maxLen) (hbase : base ≤ w.heap.size)
    (h : ∀ v' w', RowAtS w' base E size v' (n + m) (xs ++ ys) → w.grownBy w' v.ownBlock → (v'.ownBlock = v.ownBlock ∨ v'.ownBlock = some w.heap.size) → wpList P ops Q rest (a.put o.dst v') w') : wpList P ops Q (o :: rest) a w := by
  refine wpList_plain hgd fun K hK => ?_
  obtain ⟨v', w', hrun, h2, h3, h4⟩ := run_app_atS (P := P) w base T E o.type z size bytes he v n xs hown y m ys hr h1 hm0 hb h63 hbase
  unfold Oper.wp execOp
  simp only [ho, resolve, invoke, builtin, Sem.run_bind, Sem.run_pure, Result.andThen_ok, List.map_toArray, List.map_cons, List.map_nil, hs, hx, hrun]
  exact hK _ _ (h v' w' h2 h3 h4)
theorem step_app_atS {P : Program} (w : World) {ops : Array Oper} {o : Oper} {a : Act} {K : Act → World → Prop} {Q : Exit → Act → World → Prop} {Ep : Prop} (hgd : o.guard = none) (s x : Operand) (T : TypeId)
    (ho : o.op = .call { callee := .builtin .append, args := #[s, x], argTypes := #[T, T] })
    (base : Nat) (E : TypeId) (z : Value) (size bytes : Nat) (he : ElemOk P T E z size bytes)
    (v : Value) (n : Nat) (xs : List Value) (hs : a.eval s = v) (hown : RowAtS w base E size v n xs) (y : Value) (m : Nat) (ys : List Value) (hx : a.eval x = y) (hr : RowN w size y m ys) (h1 : ∀ u ∈ ys, u.oneCell' = true)
    (hm0 : 0 < m) (hb : (n + m) * bytes ≤ 200000000000000) (h63 : n + m ≤ maxLen) (hbase : base ≤ w.heap.size)
    (h : ∀ v' w', RowAtS w' base E size v' (n + m) (xs ++ ys) → w.grownBy w' v.ownBlock → (v'.ownBlock = v.ownBlock ∨ v'.ownBlock = some w.heap.size) → K (a.put o.dst v') w') :
    if Region.wanted o (yielded ops a.tmps) = true then Oper.wp P o a w K Q else Ep := by
  have hw : Region.wanted o (yielded ops a.tmps) = true := by simp [Region.wanted, hgd]
  rw [if_pos hw]
  obtain ⟨v', w', hrun, h2, h3, h4⟩ := run_app_atS (P := P) w base T E o.type z size bytes he v n xs hown y m ys hr h1 hm0 hb h63 hbase
  unfold Oper.wp execOp
  simp only [ho, resolve, invoke, builtin, Sem.run_bind, Sem.run_pure, Result.andThen_ok, List.map_toArray, List.map_cons, List.map_nil, hs, hx, hrun]
  exact h v' w' h2 h3 h4
end
end Go.Proofs.Ytgiegiobigdplaa
