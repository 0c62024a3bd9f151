/- A slice cut with its end as its room; an append to it; rows of truths. -/
import Derived.Test.YtbjiicnagfeciaaPtJ
namespace Go.Proofs.Ytbjiicnagfeciaa
open Go Go.RowKit
set_option maxRecDepth 100000

theorem run_cut_max {P : Program} {T E : TypeId} {i : TypeInfo} (ht : P.underlying T = some (.slice E)) (hi : P.info? E = some i) (A : Option Addr) (n cap : Nat) (k2 k3 : IntKind) (hi' : Int) (k : Nat)
    (h2 : hi' = k) (h3 : k ≤ cap) (w : World) :
    (Instr.sliceAt T (.slice A n cap) none (some (.int k2 hi')) (some (.int k3 hi'))).run P w = .ok (.slice A k k) w := by
  subst h2
  have a1 : (0 : Int) ≤ (k : Int) ∧ (k : Int) ≤ (cap : Int) := by omega
  have a0 : ∀ a : Addr, a.add 0 = a := fun a => by cases a; simp [Addr.add]
  by_cases hc : k = 0
  · subst hc
    simp [Instr.sliceAt, Instr.slice, run_underlying ht, Instr.sliceBounds, Instr.sliceBound, asIntOf, sizeOf, typeInfo, hi]
  · cases A with
    | none => simp [Instr.sliceAt, Instr.slice, run_underlying ht, Instr.sliceBounds, Instr.sliceBound, asIntOf, sizeOf, typeInfo, hi, a1]; omega
    | some a => simp [Instr.sliceAt, Instr.slice, run_underlying ht, Instr.sliceBounds, Instr.sliceBound, asIntOf, sizeOf, typeInfo, hi, a1, a0]; omega

theorem run_app_full {P : Program} (w : World) (base : Nat) (T E ty : TypeId) (z : Value) (size bytes : Nat) (he : ElemOk P T E z size bytes)
    (A : Option Addr) (n : Nat) (xs : List Value) (hown : RowN w size (.slice A n n) n xs) (x : Value) (m : Nat) (ys : List Value) (hr : RowN w size x m ys)
    (hm0 : 0 < m) (hb : (n + m) * bytes ≤ 200000000000000) (h63 : n + m ≤ maxLen) (hbase : base ≤ w.heap.size) :
    ∃ v' w', (Builtin.append_ #[T, T] ty #[.slice A n n, x]).run P w = .ok v' w' ∧ RowAtS w' base E size v' (n + m) (xs ++ ys) ∧ w.grownBy w' none ∧ v'.ownBlock = some w.heap.size := by
  obtain ⟨ht, ⟨i, hi, hz, hsize, hby⟩, hzs, hsz, hsm⟩ := he
  subst hsize
  subst hby
  obtain ⟨hl, A2, c, rfl, hmc, hcm, hA2⟩ := hr
  obtain ⟨hlx, A', cap', hv, _, _, hA⟩ := hown
  injection hv with e1 _ e3
  subst e1; subst e3
  have hsmall : n + m ≤ 9223372036854775807 := by simp only [maxLen] at h63; omega
  have hlen : (xs ++ ys).length = (n + m) * i.size := by rw [List.length_append, hlx, hl, Nat.add_mul]
  have grown : ∀ (old : Nat), old < n + m →
      RowAtS (w.drew.alloc (.cells (xs.toArray ++ ys.toArray ++ Builtin.zeroCells z.cells (grownCap w (n + m) old E - (n + m))) E)) base E i.size
        (.slice (some ⟨w.heap.size, 0, none⟩) (n + m) (grownCap w (n + m) old E)) (n + m) (xs ++ ys) ∧
      w.grownBy (w.drew.alloc (.cells (xs.toArray ++ ys.toArray ++ Builtin.zeroCells z.cells (grownCap w (n + m) old E - (n + m))) E)) none := by
    intro old ho
    have hge := grownCap_ge w (n + m) old E
    have hcm := grownCap_le_maxLen w (n + m) old E h63
    refine ⟨⟨hlen, .inr ⟨w.heap.size, 0, _, _, rfl, hbase, Blk.new w.drew E _, hge, ?_, hcm, ?_⟩⟩, ⟨rfl, rfl, rfl, by simp, fun k hk _ => Below.heap_alloc w.drew _ k hk⟩⟩
    · simp only [Array.toList_append, List.length_append, Array.length_toList, size_zeroCells, hzs, hlx, hl, ← Nat.add_mul]
      rw [Nat.zero_add]
      exact Nat.mul_le_mul_right _ (by omega)
    · simp only [Array.toList_append, List.drop_zero]
      rw [← hlen]
      exact List.take_left
  rcases hA2 with hA2 | ⟨b, off, rfl, hcells⟩
  · omega
  have hnews : ∀ j u, ys[j]? = some u → w.cell? ((⟨b, off, none⟩ : Addr).add j) = some u := fun j u hu => by rw [add_off]; exact hcells j u hu
  cases A with
  | none =>
    have hn0 : n = 0 := by
      rcases hA with hA | ⟨_, _, hA, _⟩
      · exact hA
      · cases hA
    subst hn0
    have hx : xs = [] := List.eq_nil_of_length_eq_zero (by simpa using hlx)
    subst hx
    have hr := run_append_nil (P := P) w T ty E i z ht hi hz ⟨b, off, none⟩ m c ys hl hnews (by omega) (by omega) (by simp only [Nat.zero_add] at hb; omega)
    have hgr := grown 0 (by omega)
    simp only [Nat.zero_add, List.nil_append, Array.empty_append] at hgr ⊢
    exact ⟨_, _, hr, hgr.1, hgr.2, rfl⟩
  | some a =>
    have holds : ∀ j u, xs[j]? = some u → w.cell? (a.add j) = some u := fun j u hu => by
      rcases hA with hA | ⟨b2, off2, hA, hc2⟩
      · have hj := (List.getElem?_eq_some_iff.1 hu).1
        rw [hlx, hA, Nat.zero_mul] at hj
        omega
      · injection hA with hA
        subst hA
        rw [add_off]
        exact hc2 j u hu
    have hr := run_append_grow (P := P) w T ty E i z ht hi hz a n n xs hlx holds ⟨b, off, none⟩ m c ys hl hnews (by omega) (by omega) (growslice_fits_wide (by omega) hb hsm)
    have hgr := grown n (by omega)
    exact ⟨_, _, hr, hgr.1, hgr.2, rfl⟩
theorem wpList_app_full {P : Program} {w : World} {ops : Array Oper} {rest : List Oper} {o : Oper} {a : Act} {Q : Exit → Act → World → Prop} (hgd : o.guard = none) (s x : Operand) (T : TypeId)
    (ho : o.op = .call { callee := .builtin .append, args := #[s, x], argTypes := #[T, T] })
    (base : Nat) (E : TypeId) (z : Value) (size bytes : Nat) (he : ElemOk P T E z size bytes)
    (A : Option Addr) (n : Nat) (xs : List Value) (hs : a.eval s = .slice A n n) (hown : RowN w size (.slice A n n) n xs) (y : Value) (m : Nat) (ys : List Value) (hx : a.eval x = y) (hr : RowN w size y m ys)
    (hm0 : 0 < m) (hb : (n + m) * bytes ≤ 200000000000000) (h63 : n + m ≤ maxLen) (hbase : base ≤ w.heap.size)
    (h : ∀ v' w', RowAtS w' base E size v' (n + m) (xs ++ ys) → w.grownBy w' none → v'.ownBlock = some w.heap.size → wpList P ops Q rest (a.put o.dst v') w') : wpList P ops Q (o :: rest) a w := by
  refine wpList_plain hgd fun K hK => ?_
  obtain ⟨v', w', hrun, h2, h3, h4⟩ := run_app_full (P := P) w base T E o.type z size bytes he A n xs hown y m ys hr hm0 hb h63 hbase
  unfold Oper.wp execOp
  simp only [ho, resolve, invoke, builtin, Sem.run_bind, Sem.run_pure, Result.andThen_ok, List.map_toArray, List.map_cons, List.map_nil, hs, hx, hrun]
  exact hK _ _ (h v' w' h2 h3 h4)

def falses (n : Nat) : Array Value := (List.replicate n (Value.bool false)).toArray
theorem boolinfo : (Try.prog.info? 4).map (fun i => (i.zero, i.size, i.bytes)) = some (some (.bool false), 1, 1) := by kernel_rfl
theorem run_makeB (kl kc : IntKind) (c : Int) (n : Nat) (hn : c = n) (hb : n ≤ 281474976710656) (w : World) :
    (Instr.makeSlice 51 (.int kl c) (.int kc c)).run Try.prog w = .ok (.slice (some ⟨w.heap.size, 0, none⟩) n n) (w.alloc (.cells (falses n) 4)) := by
  obtain ⟨i, hi, hz, hsz, hby⟩ := info_parts boolinfo
  subst hn
  have hr := run_make (P := Try.prog) w 51 4 i _ Try.underlying51 hi hz kl kc n n (by omega) (Int.le_refl _) (by rw [hby]; omega) (by omega)
  rw [hr, hsz]
  simp only [Int.toNat_natCast, Nat.mul_one]
  have : madeCells (Value.bool false).cells n = falses n := by
    apply Array.ext'
    rw [falses]
    exact toList_madeCells_one _ n
  rw [this]
end Go.Proofs.Ytbjiicnagfeciaa
