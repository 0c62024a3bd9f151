/- slices.IndexFunc, DeleteFunc at a row of pointers to what waits. -/
import Derived.Test.YtbjiicnagfeciaaPtA
import Derived.Test.YtbjiicnagfeciaaRowPtr
import Derived.Shelf.Abstract
import Derived.Deep.LoopGhost
import Derived.BigQuiet
import Derived.Deep.QuietTactic
import Derived.Lib.SliceRun
namespace Go.Proofs.Ytbjiicnagfeciaa
open Go Go.RowKit
attribute [local go_sem ↓] Go.wp_at_zero Go.wp_at_succ
set_option maxRecDepth 100000

/-- the first place below n of which p holds; -1: none -/
def fidx (p : Nat → Bool) : Nat → Option Nat
  | 0 => none
  | n + 1 => match fidx p n with
    | some i => some i
    | none => if p n then some n else none
def idxI : Option Nat → Int
  | none => -1
  | some i => (i : Int)
theorem fidx_none {p : Nat → Bool} {n : Nat} (h : ∀ j, j < n → p j = false) : fidx p n = none := by
  induction n with
  | zero => rfl
  | succ n ih => simp [fidx, ih fun j hj => h j (by omega), h n (by omega)]
theorem fidx_le {p : Nat → Bool} {k : Nat} (hp : p k = true) (h : ∀ j, j < k → p j = false) (n : Nat) (hn : k < n) : fidx p n = some k := by
  induction n with
  | zero => omega
  | succ n ih =>
    by_cases e : k = n
    · subst e
      simp [fidx, fidx_none h, hp]
    · simp [fidx, ih (by omega)]

/-- what is asked of a predicate that only reads -/
def PredRead (P : Program) (g : Nat) (lb : Array Value) (vs : List Value) (p : Nat → Bool) (w : World) : Prop :=
  ∀ (q i : Nat) (hi : i < vs.length), Calls P g (#[vs[i]] ++ lb) (w.drewN q) fun e w' => e = .returned (.bool (p i)) ∧ ∃ q', w' = w.drewN q'
theorem idx_any (g : Nat) (lb : Array Value) (eg : ∀ args w, (callFunc g args).run Try.prog w = .ok (.enter g args) w) (v : Value) (vs : List Value) (p : Nat → Bool) (w : World) (n : Nat) (h : RowN w 1 v n vs) (hp : PredRead Try.prog g lb vs p w) :
    Calls Try.prog 56 #[v, .func (.func g) #[] lb] w fun e w' => e = .returned (.int .i64 (idxI (fidx p n))) ∧ ∃ q, w' = w.drewN q := by
  obtain ⟨hl, A, cap, rfl, k1, k2, hc⟩ := h
  have hln : vs.length = n := by omega
  have hn2 : n ≤ 9223372036854775807 := by simp only [maxLen] at k2; omega
  have Hp := hid hp
  clear hp
  go_enter Try.func56, Try.ntmps56
  go_wp2
  go_loopg [5, 8] n (fun gg _ s8 wr => ∃ kk q : Nat, kk ≤ n ∧ n - kk ≤ gg ∧ s8 = .int .i64 kk ∧ wr = w.drewN q ∧ Hid (∀ j, j < kk → p j = false))
  case atStart => exact ⟨0, 0, Nat.zero_le _, by omega, rfl, rfl, hid fun j hj => absurd hj (Nat.not_lt_zero _)⟩
  case round =>
    obtain ⟨kk, q, hkk, hg, rfl, rfl, A1⟩ := hrel
    by_cases hlt : kk < n
    · have hltz : (kk : Int) < (n : Int) := by omega
      obtain ⟨gb, off, rfl, hcell⟩ : ∃ gb off, A = some ⟨gb, off, none⟩ ∧ ∀ i x, vs[i]? = some x → w.cell? ⟨gb, off + i, none⟩ = some x := by
        rcases hc with h0 | h0
        · omega
        · exact h0
      have hl2 : w.cell? ⟨gb, off + kk, none⟩ = some (vs[kk]'(by omega)) := hcell kk _ (List.getElem?_eq_getElem (by omega))
      have hcall := Hp.out q kk (by omega)
      clear hcell hc
      obtain ⟨u, hu⟩ : ∃ u, vs[kk]'(by omega) = u := ⟨_, rfl⟩
      rw [hu] at hl2 hcall
      have Hu := hid hu
      clear hu
      cases hq : p kk with
      | true =>
        rw [hq] at hcall
        go_wp2_with (go_at_fn g; refine hcall.mono ?_; rintro e w' ⟨rfl, q', rfl⟩)
        go_ret
        refine ⟨?_, q', rfl⟩
        rw [fidx_le hq A1.out n hlt]
        rfl
      | false =>
        rw [hq] at hcall
        go_wp2_with (go_at_fn g; refine hcall.mono ?_; rintro e w' ⟨rfl, q', rfl⟩)
        go_roundg (n - (kk + 1))
        case measure => omega
        case rel =>
          refine ⟨kk + 1, q', by omega, by omega, val_int (by omega), rfl, hid fun j hj => ?_⟩
          by_cases e : j = kk
          · subst e; exact hq
          · exact A1.out j (by omega)
    · have hltz : ¬ (kk : Int) < (n : Int) := by omega
      have : kk = n := by omega
      subst this
      go_wp2
      go_ret
      refine ⟨?_, q, rfl⟩
      rw [fidx_none A1.out]
      rfl
theorem fidx_some {p : Nat → Bool} {n i : Nat} (h : fidx p n = some i) : i < n ∧ p i = true ∧ ∀ j, j < i → p j = false := by
  induction n with
  | zero => cases h
  | succ n ih =>
    unfold fidx at h
    cases e : fidx p n with
    | some j =>
      rw [e] at h
      injection h with h
      subst h
      obtain ⟨a, b, c⟩ := ih e
      exact ⟨by omega, b, c⟩
    | none =>
      rw [e] at h
      simp only at h
      by_cases q : p n = true
      · rw [if_pos q] at h
        injection h with h
        subst h
        refine ⟨by omega, q, fun j hj => ?_⟩
        clear ih q
        have key : ∀ m, fidx p m = none → ∀ j, j < m → p j = false := by
          intro m
          induction m with
          | zero => intro _ j hj; omega
          | succ m ihm =>
            intro hm j hj
            unfold fidx at hm
            cases e2 : fidx p m with
            | some k => rw [e2] at hm; cases hm
            | none =>
              rw [e2] at hm
              simp only at hm
              by_cases q : p m = true
              · rw [if_pos q] at hm; cases hm
              · by_cases e3 : j = m
                · subst e3; simpa using q
                · exact ihm e2 j (by omega)
        exact key _ e j hj
      · rw [if_neg q] at h
        cases h
theorem fidx_all {p : Nat → Bool} {n : Nat} (h : fidx p n = none) : ∀ j, j < n → p j = false := by
  induction n with
  | zero => intro j hj; omega
  | succ m ih =>
    intro j hj
    unfold fidx at h
    cases e2 : fidx p m with
    | some k => rw [e2] at h; cases h
    | none =>
      rw [e2] at h
      simp only at h
      by_cases q : p m = true
      · rw [if_pos q] at h; cases h
      · by_cases e3 : j = m
        · subst e3; simpa using q
        · exact ih e2 j (by omega)

/-- a slice, anywhere in a block that the call owns, of one-cell elements -/
def RowAt (w : World) (base : Nat) (e : TypeId) (v : Value) (xs : List Value) : Prop :=
  (v = .slice none 0 0 ∧ xs = []) ∨ ∃ g off cap cur, v = .slice (some ⟨g, off, none⟩) xs.length cap ∧ base ≤ g ∧ Blk w g e cur ∧ xs.length ≤ cap ∧ off + cap ≤ cur.length ∧ cap ≤ maxLen ∧ (cur.drop off).take xs.length = xs
theorem RowAt.rowN {w : World} {base : Nat} {e : TypeId} {v : Value} {xs : List Value} (h : RowAt w base e v xs) : RowN w 1 v xs.length xs := by
  rcases h with ⟨rfl, rfl⟩ | ⟨g, off, cap, cur, rfl, _, hb, h1, h2, h3, h4⟩
  · exact RowN.nil w 1
  · refine ⟨by omega, _, _, rfl, h1, by omega, .inr ⟨g, off, rfl, fun i x hx => ?_⟩⟩
    rw [hb.cell, ← List.getElem?_drop, ← List.getElem?_take_of_lt (j := xs.length) (List.getElem?_eq_some_iff.1 hx).1, h4]
    exact hx
theorem RowAt.keep {w w' : World} {base : Nat} {e : TypeId} {v : Value} {xs : List Value} (h : RowAt w base e v xs) (hb : Below w.heap.size w w') : RowAt w' base e v xs := by
  rcases h with h | ⟨g, off, cap, cur, h0, h1, h2, h3⟩
  · exact .inl h
  · exact .inr ⟨g, off, cap, cur, h0, h1, h2.keep hb, h3⟩
theorem RowAt.mono {w : World} {base base' : Nat} {e : TypeId} {v : Value} {xs : List Value} (h : RowAt w base e v xs) (hb : base' ≤ base) : RowAt w base' e v xs := by
  rcases h with h | ⟨g, off, cap, cur, h0, h1, h2⟩
  · exact .inl h
  · exact .inr ⟨g, off, cap, cur, h0, Nat.le_trans hb h1, h2⟩
theorem RowAt.nil (w : World) (base : Nat) (e : TypeId) : RowAt w base e (.slice none 0 0) [] := .inl ⟨rfl, rfl⟩
/-- a block of another type outlives a write into it -/
theorem RowAt.ne {w : World} {base g : Nat} {e t : TypeId} {v : Value} {xs ys : List Value} (h : RowAt w base e v xs) (hb : Blk w g t ys) (ht : t ≠ e) : v.ownBlock ≠ some g := by
  rcases h with ⟨rfl, _⟩ | ⟨g2, off, cap, cur, rfl, _, hh, _⟩
  · simp [Value.ownBlock]
  · intro e2
    simp [Value.ownBlock] at e2
    subst e2
    unfold Blk at hb hh
    rw [hb] at hh
    injection hh with hh
    injection hh with _ h3
    exact ht h3
theorem RowAt.lt {w : World} {base g : Nat} {e : TypeId} {v : Value} {xs : List Value} (h : RowAt w base e v xs) (hg : v.ownBlock = some g) : base ≤ g ∧ g < w.heap.size := by
  rcases h with ⟨rfl, _⟩ | ⟨g2, off, cap, cur, rfl, hb, hh, _⟩
  · simp [Value.ownBlock] at hg
  · simp [Value.ownBlock] at hg
    subst hg
    exact ⟨hb, hh.lt⟩
theorem RowAt.kept {w w' : World} {base : Nat} {e : TypeId} {v : Value} {xs : List Value} {row : Option Nat} (h : RowAt w base e v xs) (hg : w.grownBy w' row) (hne : ∀ g, v.ownBlock = some g → some g ≠ row) : RowAt w' base e v xs := by
  rcases h with h | ⟨g2, off, cap, cur, rfl, hb, hh, hr⟩
  · exact .inl h
  · exact .inr ⟨g2, off, cap, cur, rfl, hb, hh.grown hg (hne g2 rfl), hr⟩

theorem filter_snoc {α : Type} (f : α → Bool) (l : List α) (j : Nat) (hj : j < l.length) : (l.take (j + 1)).filter f = (l.take j).filter f ++ if f l[j] then [l[j]] else [] := by
  rw [List.take_succ_eq_append_getElem hj, List.filter_append]
  by_cases h : f l[j] <;> simp [h]

/-- the store of a value of one cell, whatever it is -/
theorem wpList_store1 {P : Program} {w : World} {ops : Array Oper} {rest : List Oper} {o : Oper} {a : Act} {Q : Exit → Act → World → Prop} (hgd : o.guard = none) (ty : TypeId) (x y : Operand) (ho : o.op = .store ty x y)
    (p : Addr) (u old : Value) (hx : a.eval x = .pointer (some p)) (hy : a.eval y = u) (h1 : u.oneCell' = true) (hi : (P.info? ty).map (·.size) = some 1) (hc : w.cell? p = some old) (hf : w.frozen? p = false)
    (h : wpList P ops Q rest (a.put o.dst undef) (w.setCell p u)) : wpList P ops Q (o :: rest) a w := by
  have hu : u.cells = #[u] := by cases u <;> first | rfl | (simp [Value.oneCell'] at h1)
  cases hq : P.info? ty with
  | none => simp [hq] at hi
  | some i =>
    have hs : i.size = 1 := by simpa [hq] using hi
    have hrun : (storeVar ty p u).run P w = .ok () (w.setCell p u) := by
      simp [storeVar, hu, sizeOf, typeInfo, hq, hs, storeCells, run_store P _ _ u _ h1, Addr.add_zero', hc, hf]
    refine wpList_plain hgd fun K hK => ?_
    unfold Oper.wp execOp
    simp only [ho, hx, hy, Instr.storeAt, Instr.sureAddr, Sem.run_bind, Sem.run_pure, Result.andThen_ok, hrun]
    exact hK _ _ h
/-- what stands in the row while its elements are moved together -/
structure Moves (vs ys : List Value) (off len i j : Nat) (f : Value → Bool) : Prop where
  len : ys.length = len
  done : (ys.drop off).take i = (vs.take j).filter f
  cnt : ((vs.take j).filter f).length = i
  rest : ∀ t, j ≤ t → t < vs.length → ys[off + t]? = vs[t]?
theorem Moves.skip {vs ys : List Value} {off len i j : Nat} {f : Value → Bool} (h : Moves vs ys off len i j f) (hj : j < vs.length) (hf : f vs[j] = false) : Moves vs ys off len i (j + 1) f := by
  refine ⟨h.len, ?_, ?_, fun t h1 h2 => h.rest t (by omega) h2⟩
  · rw [filter_snoc f vs j hj, hf, h.done]; simp
  · rw [filter_snoc f vs j hj, hf]; simp [h.cnt]
theorem Moves.put {vs ys : List Value} {off len i j : Nat} {f : Value → Bool} (h : Moves vs ys off len i j f) (hj : j < vs.length) (hij : i < j) (hl : off + vs.length ≤ len) (hf : f vs[j] = true) : Moves vs (ys.set (off + i) vs[j]) off len (i + 1) (j + 1) f := by
  have hlen := h.len
  refine ⟨by rw [List.length_set]; exact h.len, ?_, ?_, fun t h1 h2 => ?_⟩
  · rw [filter_snoc f vs j hj, hf, ← h.done]
    have hd : ∀ (m : Nat), (ys.set (off + i) vs[j]).drop off = (ys.drop off).set i vs[j] := fun _ => by rw [List.drop_set, if_neg (by omega)]; congr 1; omega
    rw [hd 0, List.take_succ_eq_append_getElem (by simp; omega)]
    simp only [List.getElem_set_self, if_true, List.append_cancel_right_eq]
    rw [List.take_set_of_le (by omega)]
  · rw [filter_snoc f vs j hj, hf]; simp [h.cnt]
  · rw [List.getElem?_set_ne (by omega)]
    exact h.rest t (by omega) h2
set_option maxHeartbeats 2000000 in
theorem delf_at (gc : Nat) (lb : Array Value) (eg : ∀ args w, (callFunc gc args).run Try.prog w = .ok (.enter gc args) w) (g off cap : Nat) (vs cur : List Value) (p : Value → Bool) (w : World)
    (hb : Blk w g 88 cur) (hn : vs.length ≤ cap) (hc : off + cap ≤ cur.length) (hm : cap ≤ maxLen) (ht : (cur.drop off).take vs.length = vs) (hone : ∀ u ∈ vs, u.oneCell' = true)
    (hp : ∀ wx, w.grownBy wx (some g) → ∀ u ∈ vs, Calls Try.prog gc (#[u] ++ lb) wx fun e w' => e = .returned (.bool (p u)) ∧ ∃ q, w' = wx.drewN q) :
    Calls Try.prog 50 #[.slice (some ⟨g, off, none⟩) vs.length cap, .func (.func gc) #[] lb] w fun e w' => ∃ cur', e = .returned (.slice (some ⟨g, off, none⟩) (vs.filter fun u => !p u).length cap) ∧ Blk w' g 88 cur' ∧ cur'.length = cur.length ∧ (cur'.drop off).take (vs.filter fun u => !p u).length = vs.filter (fun u => !p u) ∧ w.grownBy w' (some g) := by
  have hr : RowN w 1 (.slice (some ⟨g, off, none⟩) vs.length cap) vs.length vs := (show RowAt w 0 88 (.slice (some ⟨g, off, none⟩) vs.length cap) vs from .inr ⟨g, off, cap, cur, rfl, Nat.zero_le _, hb, hn, hc, hm, ht⟩).rowN
  have hidx := idx_any gc lb eg (.slice (some ⟨g, off, none⟩) vs.length cap) vs (fun i => match vs[i]? with | some u => p u | none => false) w vs.length hr (by
    intro q i hi
    refine (hp (w.drewN q) ⟨rfl, rfl, rfl, Nat.le_refl _, fun _ _ _ => rfl⟩ vs[i] (List.getElem_mem hi)).mono ?_
    rintro e w' ⟨rfl, q', rfl⟩
    exact ⟨by simp [hi], q + q', by simp [World.drewN, Nat.add_assoc]⟩)
  obtain ⟨n, hnn⟩ : ∃ n, vs.length = n := ⟨_, rfl⟩
  have Hnn := hid hnn
  rw [hnn] at hidx hn ⊢
  obtain ⟨fo, hfo⟩ : ∃ o, fidx (fun i => match vs[i]? with | some u => p u | none => false) n = o := ⟨_, rfl⟩
  rw [hfo] at hidx
  have HI := hid hidx
  have hcap : cap ≤ 9223372036854775807 := by simp only [maxLen] at hm; omega
  have Hc := hid hc
  cases fo with
  | none =>
    have hall : vs.filter (fun u => !p u) = vs := by
      rw [List.filter_eq_self]
      intro u hu
      obtain ⟨i, hi, rfl⟩ := List.mem_iff_getElem.1 hu
      have := fidx_all hfo i (by omega)
      simp [hi] at this
      simp [this]
    have Hall := hid hall
    have HT := hid ht
    have HB := hid hb
    clear hidx hfo hall ht hb hr hp hone hc hm hnn eg
    unfold idxI at HI
    go_enter Try.func50, Try.ntmps50
    go_wp2_with (go_at_call 56; refine HI.out.mono ?_; rintro e w' ⟨rfl, q, rfl⟩)
    go_ret
    rw [Hall.out, Hnn.out]
    exact ⟨cur, rfl, HB.out.drewN q, rfl, by rw [← Hnn.out]; exact HT.out, ⟨rfl, rfl, rfl, Nat.le_refl _, fun _ _ _ => rfl⟩⟩
  | some i0 =>
    obtain ⟨hi0, hpi, hbefore⟩ := fidx_some hfo
    have hM : Moves vs cur off cur.length i0 (i0 + 1) (fun u => !p u) := by
      have h1 : (vs.take i0).filter (fun u => !p u) = vs.take i0 := by
        rw [List.filter_eq_self]
        intro u hu
        obtain ⟨i, hi, rfl⟩ := List.mem_iff_getElem.1 hu
        simp at hi
        have := hbefore i (by omega)
        simp [show i < vs.length by omega] at this
        simp [this]
      have hpp : (fun u => !p u) (vs[i0]'(by omega)) = false := by
        simp [show i0 < vs.length by omega] at hpi
        simp [hpi]
      have hM0 : Moves vs cur off cur.length i0 i0 (fun u => !p u) := by
        refine ⟨rfl, ?_, by rw [h1, List.length_take]; omega, fun t _ h2 => ?_⟩
        · rw [h1, ← ht, hnn, List.take_take]
          congr 1
          omega
        · have : vs[t]? = ((cur.drop off).take vs.length)[t]? := by rw [ht]
          rw [this, List.getElem?_take_of_lt h2, List.getElem?_drop]
      exact hM0.skip (by omega) hpp
    have HM := hid hM
    have HP := hid hp
    have HO := hid hone
    have HB := hid hb
    have hi0n : (i0 : Int) ≠ -1 := by omega
    have hi0b : ((i0 : Int) == -1) = false := by simp
    have hw0 : IntKind.i64.wrap ((i0 : Int) + 1) = ((i0 + 1 : Nat) : Int) := by rw [IntWalk.i64_in _ (by omega)]; omega
    clear hidx hfo ht hb hr hp hone hc hm hnn hpi hbefore hM
    unfold idxI at HI
    go_enter Try.func50, Try.ntmps50
    go_wp2_with (go_at_call 56; refine HI.out.mono ?_; rintro e w' ⟨rfl, q, rfl⟩)
    have HBq := hid (HB.out.drewN q)
    have HGq := hid (show w.grownBy (w.drewN q) (some g) from ⟨rfl, rfl, rfl, Nat.le_refl _, fun _ _ _ => rfl⟩)
    clear HB
    generalize w.drewN q = wz at *
    go_loopw [5, 6] (fun s5 s6 wr => ∃ (i j : Nat) (ys : List Value), i < j ∧ j ≤ n ∧ s5 = .int .i64 (i : Int) ∧ s6 = .int .i64 (j : Int) ∧ Moves vs ys off cur.length i j (fun u => !p u) ∧ Blk wr g 88 ys ∧ w.grownBy wr (some g)) (fun _ s6 _ => n - (intOf s6).toNat)
    case atStart => exact ⟨i0, i0 + 1, cur, by omega, by omega, rfl, rfl, HM.out, HBq.out, HGq.out⟩
    case round =>
      obtain ⟨i, j, ys, hij, hj, rfl, rfl, hM, hB, hG⟩ := hrel
      have hn0 := Hnn.out
      have hc0 := Hc.out
      have hl0 := hM.len
      by_cases hlt : j < n
      · have hltI : (j : Int) < (n : Int) := by omega
        have hiI : (i : Int) < (n : Int) := by omega
        have hjv : j < vs.length := by omega
        have cj : wr.cell? ⟨g, off + j, none⟩ = some vs[j] := by rw [hB.cell, hM.rest j (Nat.le_refl _) hjv, List.getElem?_eq_getElem hjv]
        have hcall := HP.out wr hG vs[j] (List.getElem_mem hjv)
        have hone1 := HO.out vs[j] (List.getElem_mem hjv)
        have hj1 : IntKind.i64.wrap ((j : Int) + 1) = ((j + 1 : Nat) : Int) := by rw [IntWalk.i64_in _ (by omega)]; omega
        have hi1 : IntKind.i64.wrap ((i : Int) + 1) = ((i + 1 : Nat) : Int) := by rw [IntWalk.i64_in _ (by omega)]; omega
        have HMv := hid hM
        have HBv := hid hB
        have HGv := hid hG
        obtain ⟨u, hu⟩ : ∃ u, vs[j] = u := ⟨_, rfl⟩
        rw [hu] at cj hcall hone1
        have Hu := hid hu
        clear hM hB hG hn0 hc0 hl0 hu
        cases hq : p u with
        | true =>
          rw [hq] at hcall
          have HM2 := hid (HMv.out.skip hjv (by rw [Hu.out, hq]; rfl))
          go_wp2_with (go_at_fn gc; refine hcall.mono ?_; rintro e w' ⟨rfl, q', rfl⟩)
          go_roundw
          case rel => exact ⟨i, j + 1, ys, by omega, by omega, rfl, rfl, HM2.out, HBv.out.drewN q', grown_trans HGv.out ⟨rfl, rfl, rfl, Nat.le_refl _, fun _ _ _ => rfl⟩⟩
          case measure => simp [intOf]; omega
        | false =>
          rw [hq] at hcall
          have HM2 := hid (HMv.out.put hjv hij (by have := Hnn.out; have := Hc.out; omega) (by rw [Hu.out, hq]; rfl))
          have ci : ∃ o, wr.cell? ⟨g, off + i, none⟩ = some o := by
            rw [HBv.out.cell]
            exact ⟨_, List.getElem?_eq_getElem (by have := HMv.out.len; have := Hc.out; omega)⟩
          obtain ⟨o, ci⟩ := ci
          have zi := HBv.out.frozen (off + i)
          go_wp2_with (first | (go_at_fn gc; refine hcall.mono ?_; rintro e w' ⟨rfl, q', rfl⟩) | ((with_reducible show wpList _ _ _ (Oper.mk none _ _ _ _ _ :: _) _ _); refine wpList_store1 rfl _ _ _ rfl ⟨g, off + i, none⟩ u o rfl rfl hone1 (by kernel_rfl) ci zi ?_))
          go_roundw
          case rel => exact ⟨i + 1, j + 1, _, by omega, by omega, rfl, rfl, HM2.out, by rw [Hu.out]; exact (HBv.out.drewN q').set_ (off + i) u, grown_trans (w1 := wr.drewN q') (grown_trans HGv.out ⟨rfl, rfl, rfl, Nat.le_refl _, fun _ _ _ => rfl⟩) (grown_set _ _ _ _)⟩
          case measure => simp [intOf]; omega
      · obtain rfl : j = n := by omega
        have hltI : ¬ (j : Int) < (j : Int) := by omega
        have hic : i ≤ cap := by omega
        have hcn : ¬ cap = i := by omega
        have hij2 : i ≤ j := by omega
        have hiI : (i : Int) ≤ (j : Int) := by omega
        have HMv := hid hM
        have HBv := hid hB
        have HGv := hid hG
        have hcl : ∀ ty, (Builtin.clear_ #[82] ty #[.slice (some ⟨g, off + i, none⟩) (j - i) (cap - i)]).run Try.prog wr = .ok (.tuple #[]) (wr.setCells g (off + i) (List.replicate (j - i) (.pointer none))) := fun ty => by
          have := Lib.run_clear_slice (P := Try.prog) wr 82 88 ty (.pointer none) Try.underlying82 (fun w => by kernel_rfl) rfl rfl g (off + i) (j - i) (cap - i) (by omega) (fun t ht => by rw [hB.cell, List.getElem?_eq_getElem (by omega)]; rfl) (fun t ht => hB.frozen _)
          exact this
        clear hM hB hG hn0 hc0 hl0
        go_wp2_with fail
        have hB2 := HBv.out.setCells (List.replicate (j - i) (.pointer none)) (off + i)
        have hG2 := grown_trans HGv.out (grown_setCells g (List.replicate (j - i) (.pointer none)) wr (off + i))
        go_ret
        have hfin : (vs.filter fun u => !p u).length = i := by
          have := HMv.out.cnt
          rwa [List.take_of_length_le (Nat.le_of_eq Hnn.out)] at this
        refine ⟨by rw [hfin]; rfl, _, hB2, by rw [setAll_len]; exact HMv.out.len, ?_, hG2⟩
        rw [hfin]
        have hd := HMv.out.done
        rw [List.take_of_length_le (Nat.le_of_eq Hnn.out)] at hd
        rw [← hd]
        apply List.ext_getElem?
        intro t
        by_cases ht : t < i
        · rw [List.getElem?_take_of_lt ht, List.getElem?_take_of_lt ht, List.getElem?_drop, List.getElem?_drop]
          rw [setAll_eq _ _ _ (by have := HMv.out.len; have := Hc.out; have := Hnn.out; simp; omega), List.append_assoc, List.getElem?_append_left (by have := HMv.out.len; have := Hc.out; have := Hnn.out; simp; omega), List.getElem?_take_of_lt (by omega)]
        · rw [List.getElem?_eq_none (by simp; omega), List.getElem?_eq_none (by simp; omega)]
theorem delf_any (gc : Nat) (lb : Array Value) (eg : ∀ args w, (callFunc gc args).run Try.prog w = .ok (.enter gc args) w) (base : Nat) (v : Value) (vs : List Value) (p : Value → Bool) (w : World)
    (h : RowAt w base 88 v vs) (hone : ∀ u ∈ vs, u.oneCell' = true)
    (hp : ∀ wx, w.grownBy wx v.ownBlock → ∀ u ∈ vs, Calls Try.prog gc (#[u] ++ lb) wx fun e w' => e = .returned (.bool (p u)) ∧ ∃ q, w' = wx.drewN q) :
    Calls Try.prog 50 #[v, .func (.func gc) #[] lb] w fun e w' => ∃ v', e = .returned v' ∧ RowAt w' base 88 v' (vs.filter fun u => !p u) ∧ w.grownBy w' v.ownBlock ∧ (v'.ownBlock = v.ownBlock) := by
  rcases h with ⟨rfl, rfl⟩ | ⟨g, off, cap, cur, rfl, hbase, hb, hn, hc, hm, ht⟩
  · have HI := hid (idx_any gc lb eg (.slice none 0 0) [] (fun _ => false) w 0 (RowN.nil w 1) (fun q i hi => absurd hi (Nat.not_lt_zero _)))
    clear hone hp eg
    dsimp only [fidx, idxI] at HI
    go_enter Try.func50, Try.ntmps50
    go_wp2_with (go_at_call 56; refine HI.out.mono ?_; rintro e w' ⟨rfl, q, rfl⟩)
    go_ret
    exact ⟨_, rfl, .inl ⟨rfl, rfl⟩, ⟨rfl, rfl, rfl, Nat.le_refl _, fun _ _ _ => rfl⟩, rfl⟩
  · refine (delf_at gc lb eg g off cap vs cur p w hb hn hc hm ht hone hp).mono ?_
    rintro e w' ⟨cur', rfl, h1, h2, h3, h4⟩
    have hlen : (vs.filter fun u => !p u).length ≤ vs.length := List.length_filter_le _ _
    exact ⟨_, rfl, .inr ⟨g, off, cap, cur', rfl, hbase, h1, by omega, by omega, by omega, h3⟩, h4, rfl⟩
end Go.Proofs.Ytbjiicnagfeciaa
