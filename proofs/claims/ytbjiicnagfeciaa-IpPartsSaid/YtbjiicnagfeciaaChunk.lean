/- slices.Chunk of bytes: the contract of the iterator, for a loop body that keeps what lay below a place. -/
import Derived.Test.YtbjiicnagfeciaaOwn
import Derived.Test.YtbjiicnagfeciaaNumH
import Derived.RangeFuncNested
import Derived.RangeFuncBound
import Derived.RangeFuncCalls
import Derived.RangeFuncLeaves
import Derived.RangeFuncWrites
import Derived.RangeFuncBox
import Derived.Shelf.Abstract
import Derived.WalkKit
import Derived.OwnWalkIn
import Derived.TacticsInMore
import Derived.LoopNIn
import Derived.LoopIn
import Derived.Sort.QuietTacIn
import Derived.Sort.BigQuietIn
import Derived.Test.YtbjiicnagfeciaaProg
namespace Go.Proofs.Ytbjiicnagfeciaa
open Go Go.RowKit Go.Shelf
attribute [local go_sem] Oper.semAt_some

/-- x[lo:hi:max] -/
theorem run_cut3 {P : Program} {T E : TypeId} {i : TypeInfo} (ht : P.underlying T = some (.slice E)) (hi : P.info? E = some i) (hs : i.size = 1) (b off n cap : Nat) (k1 k2 k3 : IntKind) (lo hi' mx : Int) (l k : Nat)
    (h1 : lo = l) (h2 : hi' = l + k) (h3 : mx = l + k) (h4 : l + k ≤ cap) (hk : 0 < k) (w : World) :
    (Instr.sliceAt T (.slice (some ⟨b, off, none⟩) n cap) (some (.int k1 lo)) (some (.int k2 hi')) (some (.int k3 mx))).run P w = .ok (.slice (some ⟨b, off + l, none⟩) k k) w := by
  subst h1; subst h2; subst h3
  have a1 : (0 : Int) ≤ (l : Int) + (k : Int) ∧ (l : Int) + (k : Int) ≤ (cap : Int) := by omega
  have a2 : ((l : Int) + (k : Int)).toNat = l + k := by omega
  simp [Instr.sliceAt, Instr.slice, run_underlying ht, Instr.sliceBounds, Instr.sliceBound, asIntOf, sizeOf, typeInfo, hi, a1, a2, hs, add_off]
  omega

/-- what a round keeps: what lay below n₀, and the blocks from B1 on, up to B2 -/
def KpC (n₀ B1 B2 : Nat) (W W' : World) : Prop := Below n₀ W W' ∧ ∀ g, B1 ≤ g → g < B2 → W'.heap[g]? = W.heap[g]?
theorem KpC.refl (n₀ B1 B2 : Nat) (W : World) : KpC n₀ B1 B2 W W := ⟨Below.refl _ _, fun _ _ _ => rfl⟩
theorem KpC.trans {n₀ B1 B2 : Nat} {A B C : World} (h : KpC n₀ B1 B2 A B) (k : KpC n₀ B1 B2 B C) : KpC n₀ B1 B2 A C :=
  ⟨h.1.trans k.1, fun g h1 h2 => (k.2 g h1 h2).trans (h.2 g h1 h2)⟩
theorem KpC.put {n₀ B1 B2 : Nat} {w : World} (hn : n₀ ≤ w.heap.size) (hB : B2 ≤ w.heap.size) (W : World) (l : Nat) (o o' : Obj) (hl : w.heap.size ≤ l) (h : W.heap[l]? = some o) (h1 : o.isCells = false) (h2 : o.isWalk = false) : KpC n₀ B1 B2 W (W.putObj l o') :=
  ⟨belowK_b hn W l o o' hl h h1 h2, fun g _ hg => World.putObj_heap_other (by omega)⟩
theorem KpC.cell {n₀ B1 B2 : Nat} {W W' : World} (h : KpC n₀ B1 B2 W W') {p : Addr} {x : Value} (hp : p.block < n₀ ∨ (B1 ≤ p.block ∧ p.block < B2)) (hx : W.cell? p = some x) : W'.cell? p = some x := by
  have e : W'.heap[p.block]? = W.heap[p.block]? := by
    rcases hp with hp | ⟨h1, h2⟩
    · exact h.1.block _ hp
    · exact h.2 _ h1 h2
  simpa [World.cell?, e] using hx

/-- the piece number k of a slice -/
def chunkV (b off len size k : Nat) : Value := .slice (some ⟨b, off + k * size, none⟩) (min size (len - k * size)) (min size (len - k * size))

set_option maxRecDepth 100000 in
set_option maxHeartbeats 2000000 in
theorem chunk1_in (n : Nat) (hn : 1 ≤ n) (l Bs Bn n₀ B1 B2 b off len cap size : Nat) (hlen : len ≤ 65536) (hsz : 0 < size) (hsz2 : size ≤ 65536) (hlc : len ≤ cap)
    (hB1 : B1 ≤ Bs) (hB2 : Bs < B2) (hB3 : B1 ≤ Bn) (hB4 : Bn < B2) (J Jx : List Nat → World → Prop) (W : World) (hJ : AbidesFrom W.heap.size J)
    (hY : ∀ pre x W, J pre W → pre.length < (len + size - 1) / size → YieldAt Fence.wide (n - 1) Try.prog l #[chunkV b off len size x] W fun e W' =>
      (e = .returned (.bool true) ∧ J (pre ++ [x]) W' ∧ KpC n₀ B1 B2 W W') ∨ (e = .returned (.bool false) ∧ Jx (pre ++ [x]) W'))
    (hs : W.cell? ⟨Bs, 0, none⟩ = some (.slice (some ⟨b, off, none⟩) len cap)) (hnn : W.cell? ⟨Bn, 0, none⟩ = some (.int .i64 size)) (h0 : J [] W) :
    CallsIn Fence.wide n Try.prog 49 #[.func (.yield l) #[] #[], .pointer (some ⟨Bs, 0, none⟩), .pointer (some ⟨Bn, 0, none⟩)] W fun e W' => (∃ v, e = .returned v) ∧
      ((∃ ys, ys = List.range ((len + size - 1) / size) ∧ J ys W') ∨ (∃ pre, True ∧ Jx pre W')) := by
  obtain ⟨ii, hii, hz, hss, hby⟩ := info_parts u8info
  clear hz hby
  refine callsIn_of_wp Try.func49 rfl trivial ?_ rfl
  simp only [Try.ntmps49, List.size_toArray, List.length_cons, List.length_nil, Nat.reduceAdd, Nat.reduceSub, Array.replicate_succ, Array.replicate_zero, List.push_toArray, List.append_toArray, List.nil_append, List.cons_append]
  gi_wp2
  gi_loopw [4] (fun i wr => ∃ k : Nat, k ≤ (len + size - 1) / size ∧ i = .int .i64 ((k * size : Nat) : Int) ∧ J (List.range k) wr ∧ KpC n₀ B1 B2 W wr)
    (fun i _ => len + size - (intOf i).toNat)
  case atStart => exact ⟨0, Nat.zero_le _, by simp, h0, KpC.refl _ _ _ _⟩
  case round =>
    obtain ⟨k, hk, rfl, hJs, hnx⟩ := hrel
    have hs' := hnx.cell (p := ⟨Bs, 0, none⟩) (.inr ⟨hB1, hB2⟩) hs
    have hn' := hnx.cell (p := ⟨Bn, 0, none⟩) (.inr ⟨hB3, hB4⟩) hnn
    generalize hi0 : k * size = i0 at *
    have HI0 := hid hi0
    by_cases hlt : i0 < len
    · obtain ⟨m, hm⟩ : ∃ m, min size (len - i0) = m := ⟨_, rfl⟩
      have hm1 : 0 < m ∧ m ≤ size ∧ m ≤ len - i0 := by omega
      have hmI : (if len - i0 < size then ((len - i0 : Nat) : Int) else (size : Int)) = (m : Int) := by split <;> omega
      have c1 := run_cut_from (P := Try.prog) (T := 23) Try.underlying23 hii (some ⟨b, off, none⟩) len cap .i64 (i0 : Int) i0 (len - i0) rfl (by omega) hlc
      have c3 := run_cut3 (P := Try.prog) (T := 23) Try.underlying23 hii hss b off len cap .i64 .i64 .i64 (i0 : Int) ((i0 : Int) + m) ((i0 : Int) + m) i0 m rfl rfl rfl (by omega) hm1.1
      rw [hss] at c1
      have hkK : k < (len + size - 1) / size := by
        rw [Nat.lt_div_iff_mul_lt hsz]
        have := HI0.out
        omega
      gi_wp2
      gi_big_quiet_th (fail)
      have hJ2 : J (List.range k) (wr.drewN nq) := hJ _ _ _ none hJs ⟨rfl, rfl, rfl, Nat.le_refl _, fun _ _ _ => rfl⟩ (fun _ h => by cases h)
      have hnx2 : KpC n₀ B1 B2 W (wr.drewN nq) := ⟨below_drewN hnx.1 _, hnx.2⟩
      obtain ⟨fn, tmps, assign, body, hy, hR⟩ := hY _ k (wr.drewN nq) hJ2 (by rw [List.length_range]; exact hkK)
      have HR := hid hR; clear hR
      have hy2 : (Instr.yield l #[.slice (some ⟨b, off + i0, none⟩) m m]).run Try.prog (wr.drewN nq) = .ok (.round l fn tmps assign body) (wr.drewN nq) := by
        have := hy; unfold chunkV at this; rw [HI0.out, hm] at this; exact this
      clear hy
      gi_wp2
      refine HR.out.mono ?_
      rintro e W3 (⟨rfl, hJ3, hk3⟩ | ⟨rfl, hJx3⟩)
      · have hn3 := (hnx2.trans hk3).cell (p := ⟨Bn, 0, none⟩) (.inr ⟨hB3, hB4⟩) hnn
        gi_wp2
        go_roundw
        case rel => exact ⟨k + 1, by omega, val_int (by have := HI0.out; rw [Nat.succ_mul]; omega), by rw [List.range_succ]; exact hJ3, hnx2.trans hk3⟩
        case measure => simp [intOf]; omega
      · gi_wp2
        refine bodyPost_ret (results_none rfl _ _ _) rfl ?_
        exact ⟨⟨_, rfl⟩, .inr ⟨_, trivial, hJx3⟩⟩
    · have hkK : k = (len + size - 1) / size := by
        refine Nat.le_antisymm hk ?_
        rw [Nat.div_le_iff_le_mul_add_pred hsz]
        have := HI0.out
        rw [Nat.mul_comm] at this
        omega
      gi_wp2
      go_end0
      exact ⟨⟨_, rfl⟩, .inl ⟨_, by rw [hkK], hJs⟩⟩
end Go.Proofs.Ytbjiicnagfeciaa
