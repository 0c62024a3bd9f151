/- The walk of DrcPlays. -/
import Derived.Test.YtkgeccmpekclcaaDrcEa
import Derived.Test.YtkgeccmpekclcaaDrcQ
import Derived.Deep.Cut
import Derived.Deep.CutRange
import Derived.Deep.RegionHeld3
import Derived.Deep.DrawnRows
namespace Go.Proofs.Ytkgeccmpekclcaa
open Go Go.RowKit
attribute [local go_sem ↓] Go.wp_at_zero Go.wp_at_succ
set_option maxRecDepth 100000

/-- one step of a table's play -/
structure PStep where
  kind : Int
  key : DKey
  rep : List UInt8
  rv : Value
def PStep.cells (s : PStep) : List Value := .int .i64 s.kind :: s.key.cells ++ [s.rv]
def pCells (S : List PStep) : List Value := S.flatMap PStep.cells
theorem PStep.clen (s : PStep) : s.cells.length = 7 := rfl
theorem pCells_at (L : List PStep) (i j : Nat) (hi : i < L.length) (hj : j < 7) : (pCells L)[i * 7 + j]? = L[i].cells[j]? := by
  induction L generalizing i with
  | nil => simp at hi
  | cons x L ih =>
    rw [show pCells (x :: L) = x.cells ++ pCells L from rfl]
    cases i with
    | zero => rw [List.getElem?_append_left (by rw [PStep.clen]; omega)]; simp
    | succ i =>
      rw [List.getElem?_append_right (by rw [PStep.clen]; omega), PStep.clen, show (i + 1) * 7 + j - 7 = i * 7 + j by omega, ih i (by simpa using hi)]
      rfl
theorem keyRow_at (l : List DCall) (i j : Nat) (hi : i < l.length) (hj : j < 5) : (keyRow l)[i * 5 + j]? = l[i].key.cells[j]? := by
  have cl : ∀ c : DCall, c.key.cells.length = 5 := fun _ => rfl
  induction l generalizing i with
  | nil => simp at hi
  | cons x l ih =>
    rw [show keyRow (x :: l) = x.key.cells ++ keyRow l from rfl]
    cases i with
    | zero => rw [List.getElem?_append_left (by rw [cl]; omega)]; simp
    | succ i =>
      rw [List.getElem?_append_right (by rw [cl]; omega), cl, show (i + 1) * 5 + j - 5 = i * 5 + j by omega, ih i (by simpa using hi)]
      rfl
theorem keep10 {w w' : World} (hb : Below w.heap.size w w') {p0 p1 p2 p3 p4 p5 p6 p7 p8 p9 p10 : Addr} {x0 x1 x2 x3 x4 x5 x6 x7 x8 x9 x10 : Value}
    (h : w.cell? p0 = some x0 ∧ w.cell? p1 = some x1 ∧ w.cell? p2 = some x2 ∧ w.cell? p3 = some x3 ∧ w.cell? p4 = some x4 ∧ w.cell? p5 = some x5 ∧ w.cell? p6 = some x6 ∧ w.cell? p7 = some x7 ∧ w.cell? p8 = some x8 ∧ w.cell? p9 = some x9 ∧ w.cell? p10 = some x10) :
    w'.cell? p0 = some x0 ∧ w'.cell? p1 = some x1 ∧ w'.cell? p2 = some x2 ∧ w'.cell? p3 = some x3 ∧ w'.cell? p4 = some x4 ∧ w'.cell? p5 = some x5 ∧ w'.cell? p6 = some x6 ∧ w'.cell? p7 = some x7 ∧ w'.cell? p8 = some x8 ∧ w'.cell? p9 = some x9 ∧ w'.cell? p10 = some x10 := by
  obtain ⟨h0, h1, h2, h3, h4, h5, h6, h7, h8, h9, h10⟩ := h
  exact ⟨cell_below hb h0, cell_below hb h1, cell_below hb h2, cell_below hb h3, cell_below hb h4, cell_below hb h5, cell_below hb h6, cell_below hb h7, cell_below hb h8, cell_below hb h9, cell_below hb h10⟩
theorem blk6 {w : World} {g : Nat} {t : TypeId} {x0 x1 x2 x3 x4 x5 x6 : Value} (h : Blk w g t [x0, x1, x2, x3, x4, x5, x6]) :
    w.cell? ⟨g, 1, none⟩ = some x1 ∧ w.cell? ⟨g, 2, none⟩ = some x2 ∧ w.cell? ⟨g, 3, none⟩ = some x3 ∧ w.cell? ⟨g, 4, none⟩ = some x4 ∧ w.cell? ⟨g, 5, none⟩ = some x5 ∧ w.cell? ⟨g, 6, none⟩ = some x6 :=
  ⟨h.cell 1, h.cell 2, h.cell 3, h.cell 4, h.cell 5, h.cell 6⟩
theorem own_block {w : World} {base g cap n : Nat} {e : TypeId} {bs : List UInt8} (h : OwnBs w base e (.slice (some ⟨g, 0, none⟩) n cap) bs) : ∃ xs, Blk w g e xs := by
  rcases h.2 with ⟨h0, _⟩ | ⟨g', cap', cur, hv, hb, hg, _⟩
  · cases h0
  · injection hv with e1 e2 e3
    injection e1 with e1
    injection e1 with e1
    subst e1
    exact ⟨cur.toList, by unfold Blk; simpa using hg⟩
/-- steps in memory -/
structure StepsAt (w : World) (v : Value) (S : List PStep) : Prop where
  row : RowN w 7 v S.length (pCells S)
  ok : ∀ s ∈ S, s.key.Ok ∧ (-9223372036854775808 ≤ s.kind ∧ s.kind ≤ 9223372036854775807) ∧ Bs w s.rv s.rep
theorem StepsAt.below {w w' : World} {v : Value} {S : List PStep} (h : StepsAt w v S) (hb : Below w.heap.size w w') : StepsAt w' v S :=
  ⟨h.row.below hb, fun s hs => ⟨(h.ok s hs).1, (h.ok s hs).2.1, (h.ok s hs).2.2.below hb⟩⟩

structure Play (w0 wr : World) (B gT gX N m : Nat) (lT lX : List DCall) : Prop where
  tab : TabInv wr B gT N m lT
  ref : RefInv wr B gX N lX
  bel : Below w0.heap.size w0 wr
  lo : B ≤ wr.heap.size
  hB : w0.heap.size ≤ B
theorem Play.grow {w0 wr w' : World} {B gT gX N m : Nat} {lT lX : List DCall} (h : Play w0 wr B gT gX N m lT lX) (b : Below wr.heap.size wr w') : Play w0 w' B gT gX N m lT lX :=
  ⟨h.tab.keep b, h.ref.keep b, h.bel.trans (b.mono h.bel.size), Nat.le_trans h.lo b.size, h.hB⟩
theorem Play.opT {w0 wr w' : World} {B gT gX N m m' : Nat} {lT lX l' : List DCall} (h : Play w0 wr B gT gX N m lT lX) (t : TabInv w' B gT N m' l') (b : Below B wr w') (s : Spares wr w') : Play w0 w' B gT gX N m' l' lX :=
  ⟨t, h.ref.spares s, h.bel.trans (b.mono h.hB), Nat.le_trans h.lo b.size, h.hB⟩
theorem Play.opX {w0 wr w' : World} {B gT gX N m : Nat} {lT lX l' : List DCall} (h : Play w0 wr B gT gX N m lT lX) (t : RefInv w' B gX N l') (b : Below B wr w') (s : RSpares wr w') : Play w0 w' B gT gX N m lT l' :=
  ⟨h.tab.rspares s, t, h.bel.trans (b.mono h.hB), Nat.le_trans h.lo b.size, h.hB⟩
structure PlayO (w0 wr : World) (B gT gX N m : Nat) (lT lX : List DCall) (gm : Nat) : Prop where
  tab : TabOff wr B gT N m lT gm
  ref : RefOff wr B gX N lX gm
  bel : Below w0.heap.size w0 wr
  lo : B ≤ wr.heap.size
  hB : w0.heap.size ≤ B
  gmB : B ≤ gm
  gmL : gm < wr.heap.size
theorem Play.off {w0 wr w' : World} {B gT gX N m gm : Nat} {lT lX : List DCall} (h : Play w0 wr B gT gX N m lT lX) (b : Below wr.heap.size wr w') (h1 : wr.heap.size ≤ gm) (h2 : gm < w'.heap.size) : PlayO w0 w' B gT gX N m lT lX gm :=
  ⟨h.tab.off b h1, h.ref.off b h1, h.bel.trans (b.mono h.bel.size), Nat.le_trans h.lo b.size, h.hB, Nat.le_trans h.lo h1, h2⟩
theorem PlayO.play {w0 wr : World} {B gT gX N m gm : Nat} {lT lX : List DCall} (h : PlayO w0 wr B gT gX N m lT lX gm) : Play w0 wr B gT gX N m lT lX := ⟨h.tab.inv, h.ref.inv, h.bel, h.lo, h.hB⟩
theorem PlayO.grow {w0 wr w' : World} {B gT gX N m gm : Nat} {lT lX : List DCall} (h : PlayO w0 wr B gT gX N m lT lX gm) (b : Below wr.heap.size wr w') : PlayO w0 w' B gT gX N m lT lX gm :=
  ⟨h.tab.keep b, h.ref.keep b, h.bel.trans (b.mono h.bel.size), Nat.le_trans h.lo b.size, h.hB, h.gmB, Nat.lt_of_lt_of_le h.gmL b.size⟩
theorem PlayO.opT {w0 wr w' : World} {B gT gX N m m' gm : Nat} {lT lX l' : List DCall} (h : PlayO w0 wr B gT gX N m lT lX gm) (t : TabOff w' B gT N m' l' gm) (b : Below B wr w') (s : Spares wr w') : PlayO w0 w' B gT gX N m' l' lX gm :=
  ⟨t, h.ref.spares s, h.bel.trans (b.mono h.hB), Nat.le_trans h.lo b.size, h.hB, h.gmB, Nat.lt_of_lt_of_le h.gmL b.size⟩
theorem PlayO.opX {w0 wr w' : World} {B gT gX N m gm : Nat} {lT lX l' : List DCall} (h : PlayO w0 wr B gT gX N m lT lX gm) (t : RefOff w' B gX N l' gm) (b : Below B wr w') (s : RSpares wr w') : PlayO w0 w' B gT gX N m lT l' gm :=
  ⟨h.tab.rspares s, t, h.bel.trans (b.mono h.hB), Nat.le_trans h.lo b.size, h.hB, h.gmB, Nat.lt_of_lt_of_le h.gmL b.size⟩
theorem PlayO.wrote {w0 wr w' : World} {B gT gX N m gm : Nat} {lT lX : List DCall} (h : PlayO w0 wr B gT gX N m lT lX gm) {xs : List Value} (hb : Blk wr gm 5 xs) (hg : wr.grownBy w' (some gm)) : PlayO w0 w' B gT gX N m lT lX gm :=
  ⟨h.tab.wrote hb hg, h.ref.wrote hb hg, below_own h.bel hg (Nat.le_trans h.hB h.gmB) h.bel.size, Nat.le_trans h.lo hg.size, h.hB, h.gmB, Nat.lt_of_lt_of_le h.gmL hg.size⟩

structure PlayL (N : Nat) (l : List DCall) : Prop where
  len : l.length ≤ N
  reps : ∀ c ∈ l, c.reply.length ≤ 1099511627776
theorem PlayL.begins {N : Nat} {l : List DCall} (h : PlayL N l) (hN : 1 ≤ N) (k : DKey) : PlayL N (drcBegin N l k).2 := ⟨drcBegin_len h.len hN, once_mid h.reps⟩
theorem PlayL.ends {N : Nat} {l : List DCall} (h : PlayL N l) (k : DKey) (r : List UInt8) (hr : r.length ≤ 1099511627776) : PlayL N (drcEnd l k r).1 := by
  unfold drcEnd
  split
  · exact h
  · refine ⟨by rw [List.length_set]; exact h.len, fun c hc => ?_⟩
    rcases List.mem_or_eq_of_mem_set hc with hc | rfl
    · exact h.reps c hc
    · exact hr
theorem RefInv.mono {w : World} {base base' gX n : Nat} {l : List DCall} (h : RefInv w base gX n l) (hb : base' ≤ base) : RefInv w base' gX n l := by
  obtain ⟨L, vL, e, h⟩ := h
  exact ⟨L, vL, e, h.tab, Nat.le_trans hb h.tabB, own_mono h.row hb, fun x hx => (h.it x hx).mono hb⟩

theorem stepinfo : (Try.prog.info? 36).map (·.size) = some 7 := by kernel_rfl

theorem begin_same {n : Nat} {l l2 : List DCall} {k : DKey} {code : Int} {rp : List UInt8} (h : drcBegin n l k = ((code, rp), l2)) (hr : rp ≠ []) : l2 = l := by
  unfold drcBegin at h
  repeat' split at h
  all_goals first
    | (injection h with h1 h2; exact h2.symm)
    | (injection h with h1 h2; injection h1 with _ h1; exact absurd h1.symm hr)
theorem rep_le {n : Nat} {l l2 : List DCall} {k : DKey} {code : Int} {rp : List UInt8} (h : drcBegin n l k = ((code, rp), l2)) (hr : ∀ c ∈ l, c.reply.length ≤ 1099511627776) : rp.length ≤ 1099511627776 := by
  unfold drcBegin at h
  split at h
  · rename_i c hc
    split at h
    · injection h with h1 h2; injection h1 with _ h1; rw [← h1]; exact hr c (List.mem_of_find?_eq_some hc)
    · injection h with h1 h2; injection h1 with _ h1; rw [← h1]; simp
  · repeat' split at h
    all_goals (injection h with h1 h2; injection h1 with _ h1; rw [← h1]; simp)

set_option maxHeartbeats 4000000 in
theorem drcPlays_walk (n : Int) (vs : Value) (S : List PStep) (w : World) (h : StepsAt w vs S) :
    Calls Try.prog 3 #[.int .i64 n, vs] w fun e w' => e = .returned (.bool true) ∧ Below w.heap.size w w' := by
  have HS := hid h
  obtain ⟨sn, hsn⟩ : ∃ n, S.length = n := ⟨_, rfl⟩
  have Hsn := hid hsn
  obtain ⟨_, As, caps, rfl, _, _, _⟩ := h.row
  rw [hsn]
  clear h hsn
  by_cases hn : n < 1 ∨ n > 256
  · go_enter Try.func3, Try.ntmps3
    go_wp2_with (first
      | (go_at_call 6; refine (known_any _).mono ?_; rintro e w1 ⟨rfl, hb1⟩; have Hb1 := hid hb1; clear hb1)
      | (go_at_call 7; refine (new_any n _).mono ?_; rintro e w2 ⟨hb, hc⟩; have Hb2 := hid hb; rcases hc with ⟨_, rfl⟩ | ⟨hc, _⟩; rotate_left; exact absurd hn hc)
      | (go_at_call 8; refine (rnew_any n _).mono ?_; rintro e w3 ⟨hb, hc⟩; have Hb3 := hid hb; rcases hc with ⟨_, rfl⟩ | ⟨hc, _⟩; rotate_left; exact absurd hn hc))
    go_ret
    exact ⟨rfl, Hb1.out.trans ((Hb2.out.mono Hb1.out.size).trans (Hb3.out.mono (Nat.le_trans Hb1.out.size Hb2.out.size)))⟩
  · go_enter Try.func3, Try.ntmps3
    go_upto_region 9 with (first
      | (go_at_call 6; refine (known_any _).mono ?_; rintro e w1 ⟨rfl, hb1⟩; have Hb1 := hid hb1; clear hb1)
      | (go_at_call 7; refine (new_any n _).mono ?_; rintro e w2 ⟨hb, hc⟩; have Hb2 := hid hb; rcases hc with ⟨hc, _⟩ | ⟨_, gT, rfl, ht⟩; exact absurd hc hn; unfold ptrV; have T2 := hid ht; clear ht hb)
      | (go_at_call 8; refine (rnew_any n _).mono ?_; rintro e w3 ⟨hb, hc⟩; have Hb3 := hid hb; rcases hc with ⟨hc, _⟩ | ⟨_, gX, rfl, ht⟩; exact absurd hc hn; unfold ptrV; have X3 := hid ht; clear ht hb))
    obtain ⟨N, hN⟩ : ∃ N : Nat, n.toNat = N := ⟨_, rfl⟩
    have HN := hid (show 1 ≤ N ∧ N ≤ 256 by omega)
    rw [hN] at T2 X3
    have HP := hid (show Play w w3 w1.heap.size gT gX N 0 [] [] from ⟨T2.out.keep Hb3.out, X3.out.mono Hb2.out.size, Hb1.out.trans ((Hb2.out.mono Hb1.out.size).trans (Hb3.out.mono (Nat.le_trans Hb1.out.size Hb2.out.size))), Nat.le_trans Hb2.out.size Hb3.out.size, Hb1.out.size⟩)
    clear hN T2 X3 Hb1 Hb2 Hb3 hn
    generalize w1.heap.size = B at HP
    go_wp2_with fail
    go_loopw [9] (fun i wr => ∃ (k m : Nat) (l : List DCall), k ≤ 150 ∧ m ≤ k ∧ i = .int .i64 (k : Int) ∧ PlayL N l ∧ Play w wr B gT gX N m l l) (fun i _ => 150 - (intOf i).toNat)
    case atStart => exact ⟨0, 0, [], by omega, by omega, rfl, ⟨Nat.zero_le _, fun c hc => (by cases hc)⟩, HP.out⟩
    case round =>
      obtain ⟨k, m, l, hk, hm, rfl, hL, hP⟩ := hrel
      have HL := hid hL
      have HP := hid hP
      have Hm := hid hm
      clear hL hP hm
      by_cases hkl : k < sn ∧ k < 150
      · obtain ⟨hkl1, hkl2⟩ := hkl
        have t1 : (k : Int) < (sn : Int) := by omega
        have t2 : (k : Int) < 150 := by omega
        have HSr := hid (HS.out.below HP.out.bel)
        have hrow := HSr.out.row
        rw [Hsn.out] at hrow
        obtain ⟨_, A', cap', hv', _, _, hA⟩ := hrow
        injection hv' with e1 _ e2
        subst e1; subst e2
        obtain ⟨gb, off, rfl, hcell⟩ : ∃ gb off, As = some ⟨gb, off, none⟩ ∧ ∀ i x, (pCells S)[i]? = some x → wr.cell? ⟨gb, off + i, none⟩ = some x := by
          rcases hA with h0 | h0
          · omega
          · exact h0
        have hkx : k < S.length := by rw [Hsn.out]; exact hkl1
        have hcx := fun f (hf : f < 7) x (hx : S[k].cells[f]? = some x) => hcell (k * 7 + f) x ((pCells_at S k f hkx hf).trans hx)
        have hok := HSr.out.ok S[k] (List.getElem_mem hkx)
        have hok0 := HS.out.ok S[k] (List.getElem_mem hkx)
        obtain ⟨⟨kind, ⟨k1, k2, k3, k4, k5⟩, rep, rv⟩, hx⟩ : ∃ x, S[k] = x := ⟨_, rfl⟩
        rw [hx] at hcx hok hok0
        dsimp only at hok hok0
        obtain ⟨ln, hln⟩ : ∃ n, rep.length = n := ⟨_, rfl⟩
        obtain ⟨Ar, capr, rfl⟩ := slice_len hok.2.2 hln
        have Hln := hid hln
        have HR0 := hid hok0.2.2
        have Hkx := hid hok.1
        have c0 : wr.cell? ⟨gb, off + k * 7, none⟩ = some (.int .i64 kind) := (by rw [← Nat.add_zero (k * 7)]; exact hcx 0 (by decide) _ rfl)
        have c1 : wr.cell? ⟨gb, off + k * 7 + 1, none⟩ = some (.int .u32 (k1 : Int)) := (by rw [Nat.add_assoc]; exact hcx 1 (by decide) _ rfl)
        have c2 : wr.cell? ⟨gb, off + k * 7 + 2, none⟩ = some (.int .i64 k2) := (by rw [Nat.add_assoc]; exact hcx 2 (by decide) _ rfl)
        have c3 : wr.cell? ⟨gb, off + k * 7 + 3, none⟩ = some (.int .u32 (k3 : Int)) := (by rw [Nat.add_assoc]; exact hcx 3 (by decide) _ rfl)
        have c4 : wr.cell? ⟨gb, off + k * 7 + 4, none⟩ = some (.int .u32 (k4 : Int)) := (by rw [Nat.add_assoc]; exact hcx 4 (by decide) _ rfl)
        have c5 : wr.cell? ⟨gb, off + k * 7 + 5, none⟩ = some (.int .u32 (k5 : Int)) := (by rw [Nat.add_assoc]; exact hcx 5 (by decide) _ rfl)
        have c6 : wr.cell? ⟨gb, off + k * 7 + 6, none⟩ = some (.slice Ar ln capr) := (by rw [Nat.add_assoc]; exact hcx 6 (by decide) _ rfl)
        clear hcell hcx hok hok0 hx hkx hA hln hkl1 hkl2
        go_upto_region 13 with ((with_reducible show wpList _ _ _ (Oper.mk none _ _ _ _ _ :: _) _ _); refine wpList_storeBlk rfl _ _ _ rfl _ _ rfl rfl _ _ (Blk.new _ _ _) stepinfo rfl rfl ?_; intro w4 hblk4 hg4 hsz4; have P4 := hid (HP.out.grow (below_new_store hg4)); have hs := hid hblk4; have s6 := hs.out.cell 6; clear hblk4 hg4 hsz4)
        have hk1 : IntKind.i64.wrap ((k : Int) + 1) = ((k + 1 : Nat) : Int) := by rw [IntWalk.i64_in _ (by omega)]; omega
        by_cases hbig : ln > 3000
        · have hbI : (ln : Int) > 3000 := by omega
          go_wp2
          go_roundw
          case rel => exact ⟨k + 1, m, l, by omega, by have := Hm.out; omega, rfl, HL.out, P4.out⟩
          case measure => simp [intOf]; omega
        have hbI : ¬ (ln : Int) > 3000 := by omega
        have Hrl := hid (show rep.length ≤ 1099511627776 by have := Hln.out; omega)
        clear c0 c1 c2 c3 c4 c5 c6
        have s0 := hs.out.cell 0
        generalize wr.heap.size = gs at hs s0 s6 ⊢
        go_upto_if 64 with fail
        go_cut [11, 12, 13, 14, 15, 16, 17] from 64 to 125 (fun _ _ _ _ _ _ _ wx => ∃ (m' : Nat) (l2 : List DCall), m' ≤ m + 1 ∧ PlayL N l2 ∧ Play w wx B gT gX N m' l2 l2)
        case rest =>
          obtain ⟨m2, l2, hm2, hL2, hP2⟩ := hcut
          have HL2 := hid hL2
          have P9 := hid hP2
          have Hm2 := hid hm2
          clear hL2 hP2 hm2 hs s0 s6
          go_step
          go_upto_region 31 with (go_at_call 14; refine (knownL_any B gT N m2 l2 _ P9.out.tab (by have := HL2.out.len; have := HN.out.2; omega)).mono ?_; rintro e w10 ⟨v10, rfl, hown, hb⟩; have P10 := hid (P9.out.grow hb); have Hk := hid (RowN.of_own hown); clear hown hb)
          obtain ⟨L, vL, eL, hR⟩ := P10.out.ref
          obtain ⟨ln2, hln2⟩ : ∃ n, l2.length = n := ⟨_, rfl⟩
          have hlen : L.length = ln2 := by rw [← hln2, ← eL]; simp
          have hrowL := RowN.of_own hR.row
          have hrowK := Hk.out
          have cX := hR.tab.cell 1
          rw [hlen] at hrowL
          rw [hln2] at hrowK
          obtain ⟨_, AL, capL, rfl, _, _, hcL⟩ := hrowL
          obtain ⟨_, AK, capK, rfl, _, _, hcK⟩ := hrowK
          have HcL := hid hcL
          have HcK := hid hcK
          have HeL := hid eL
          have HlL := hid hlen
          have HlK := hid hln2
          have cX : w10.cell? ⟨gX, 1, none⟩ = some (.slice AL ln2 capL) := cX
          have Hn2 := hid (show ln2 ≤ 256 by have := HL2.out.len; have := HN.out.2; omega)
          clear hcL hcK eL hlen hln2 hR Hk
          have hneq : ((ln2 : Int) != (ln2 : Int)) = false := by simp
          go_wp2_with fail
          go_loopw [19] (fun i wx => ∃ j : Nat, j ≤ ln2 ∧ i = .int .i64 (j : Int) ∧ Below w10.heap.size w10 wx) (fun i _ => ln2 - (intOf i).toNat)
          case atStart => exact ⟨0, Nat.zero_le _, rfl, Below.refl _ _⟩
          case round =>
            obtain ⟨j, hj, rfl, hbx⟩ := hrel
            have Hbx := hid hbx
            clear hbx
            by_cases hlt : j < ln2
            · have hltI : (j : Int) < (ln2 : Int) := by omega
              obtain ⟨gk, ok, rfl, hck⟩ : ∃ b off, AK = some ⟨b, off, none⟩ ∧ ∀ i x, (keyRow l2)[i]? = some x → w10.cell? ⟨b, off + i, none⟩ = some x := by
                rcases HcK.out with h0 | h0
                · omega
                · exact h0
              obtain ⟨gr, ofr, rfl, hcr⟩ : ∃ b ofr, AL = some ⟨b, ofr, none⟩ ∧ ∀ i x, (rCells L)[i]? = some x → w10.cell? ⟨b, ofr + i, none⟩ = some x := by
                rcases HcL.out with h0 | h0
                · omega
                · exact h0
              have hjL : j < L.length := by rw [HlL.out]; exact hlt
              have hjK : j < l2.length := by rw [HlK.out]; exact hlt
              have hkk : l2[j].key = L[j].c.key := by
                have : l2 = L.map RIt.c := HeL.out.symm
                subst this
                simp
              have hk1 := fun f (hf : f < 5) x (hx : l2[j].key.cells[f]? = some x) => hck (j * 5 + f) x ((keyRow_at l2 j f hjK hf).trans hx)
              have hr1 := fun f (hf : f < 7) x (hx : L[j].cells[f]? = some x) => hcr (j * 7 + f) x ((rCells_at L j f hjL hf).trans hx)
              rw [hkk] at hk1
              obtain ⟨⟨⟨⟨a1, a2, a3, a4, a5⟩, done, reply⟩, rvx⟩, hx⟩ : ∃ x, L[j] = x := ⟨_, rfl⟩
              rw [hx] at hk1 hr1
              have HS := hid (keep10 Hbx.out (show w10.cell? ⟨gk, ok + j * 5, none⟩ = some (.int .u32 (a1 : Int)) ∧ w10.cell? ⟨gk, ok + j * 5 + 1, none⟩ = some (.int .i64 a2) ∧ w10.cell? ⟨gk, ok + j * 5 + 2, none⟩ = some (.int .u32 (a3 : Int)) ∧ w10.cell? ⟨gk, ok + j * 5 + 3, none⟩ = some (.int .u32 (a4 : Int)) ∧ w10.cell? ⟨gk, ok + j * 5 + 4, none⟩ = some (.int .u32 (a5 : Int)) ∧ w10.cell? ⟨gr, ofr + j * 7, none⟩ = some (.int .u32 (a1 : Int)) ∧ w10.cell? ⟨gr, ofr + j * 7 + 1, none⟩ = some (.int .i64 a2) ∧ w10.cell? ⟨gr, ofr + j * 7 + 2, none⟩ = some (.int .u32 (a3 : Int)) ∧ w10.cell? ⟨gr, ofr + j * 7 + 3, none⟩ = some (.int .u32 (a4 : Int)) ∧ w10.cell? ⟨gr, ofr + j * 7 + 4, none⟩ = some (.int .u32 (a5 : Int)) ∧ w10.cell? ⟨gX, 1, none⟩ = some (.slice (some ⟨gr, ofr, none⟩) ln2 capL) from by
                simp only [Nat.add_assoc]
                exact ⟨hk1 0 (by decide) _ rfl, hk1 1 (by decide) _ rfl, hk1 2 (by decide) _ rfl, hk1 3 (by decide) _ rfl, hk1 4 (by decide) _ rfl, hr1 0 (by decide) _ rfl, hr1 1 (by decide) _ rfl, hr1 2 (by decide) _ rfl, hr1 3 (by decide) _ rfl, hr1 4 (by decide) _ rfl, cX⟩))
              have hj1 : IntKind.i64.wrap ((j : Int) + 1) = ((j + 1 : Nat) : Int) := by have := Hn2.out; rw [IntWalk.i64_in _ (by omega)]; omega
              have HT := fun wx => theirs_any ⟨a1, a2, a3, a4, a5⟩ wx
              dsimp only [DKey.val, DKey.cells] at HT
              clear hck hcr hk1 hr1 hkk hx cX hjL hjK
              go_upto_region 36 with fail
              go_region_held3 (fun wy => wy.cell? ⟨gk, ok + j * 5, none⟩ = some (.int .u32 (a1 : Int)) ∧ wy.cell? ⟨gk, ok + j * 5 + 1, none⟩ = some (.int .i64 a2) ∧ wy.cell? ⟨gk, ok + j * 5 + 2, none⟩ = some (.int .u32 (a3 : Int)) ∧ wy.cell? ⟨gk, ok + j * 5 + 3, none⟩ = some (.int .u32 (a4 : Int)) ∧ wy.cell? ⟨gk, ok + j * 5 + 4, none⟩ = some (.int .u32 (a5 : Int)) ∧ wy.cell? ⟨gr, ofr + j * 7, none⟩ = some (.int .u32 (a1 : Int)) ∧ wy.cell? ⟨gr, ofr + j * 7 + 1, none⟩ = some (.int .i64 a2) ∧ wy.cell? ⟨gr, ofr + j * 7 + 2, none⟩ = some (.int .u32 (a3 : Int)) ∧ wy.cell? ⟨gr, ofr + j * 7 + 3, none⟩ = some (.int .u32 (a4 : Int)) ∧ wy.cell? ⟨gr, ofr + j * 7 + 4, none⟩ = some (.int .u32 (a5 : Int)) ∧ wy.cell? ⟨gX, 1, none⟩ = some (.slice (some ⟨gr, ofr, none⟩) ln2 capL)) (first | exact keep10 Hb11.out HS.out | exact keep10 (below_drew _) HS.out | exact HS.out) (first
                | (go_at_call 11; (with_reducible refine (HT _).mono ?_); rintro e w11 ⟨rfl, hb⟩; have Hb11 := hid (first_below hb); clear hb)
                | fail)
              have HB12 := hid (Hbx.out.trans (Hb11.out.mono Hbx.out.size))
              clear HS HT
              go_wp2_with fail
              exact ⟨⟨j + 1, by omega, val_int (by omega), HB12.out⟩, by simp [intOf]; omega⟩
            · have hltI : ¬ (j : Int) < (ln2 : Int) := by omega
              have P12 := hid (P10.out.grow Hbx.out)
              have hkk : (k : Int) < 150 := t2
              have hk1 : IntKind.i64.wrap ((k : Int) + 1) = ((k + 1 : Nat) : Int) := by rw [IntWalk.i64_in _ (by omega)]; omega
              go_wp2_with fail
              go_roundw
              case rel => exact ⟨k + 1, m2, l2, by omega, by have := Hm.out; have := Hm2.out; omega, rfl, HL2.out, P12.out⟩
              case measure => simp [intOf]; omega
        by_cases hkind : kind = 1
        · have hkI : decide (kind = 1) = true := decide_eq_true hkind
          subst hkind
          obtain ⟨code, rp, l2, hbg⟩ : ∃ code rp l2, drcBegin N l (⟨k1, k2, k3, k4, k5⟩ : DKey) = ((code, rp), l2) := ⟨_, _, _, rfl⟩
          have Hbg := hid hbg
          have HL2 := hid (show PlayL N l2 by have := HL.out.begins HN.out.1 (⟨k1, k2, k3, k4, k5⟩ : DKey); rw [hbg] at this; exact this)
          clear hbg
          have s1 := hs.out.cell 1
          have s2 := hs.out.cell 2
          have s3 := hs.out.cell 3
          have s4 := hs.out.cell 4
          have s5 := hs.out.cell 5
          go_upto_region 17 with (first
            | (go_at_call 9; refine (beginB_at B gT N m l l2 (⟨k1, k2, k3, k4, k5⟩ : DKey) _ code rp _ rfl Hbg.out P4.out.tab P4.out.lo Hkx.out HN.out.2 HL.out.len (by have := Hm.out; omega) HL.out.reps).mono ?_; rintro e w5 ⟨v5, rfl, hown, ht, hbn, hsp, hor⟩; have P5 := hid (P4.out.opT ht hbn hsp); have Hown5 := hid hown; have Hor5 := hid hor; clear s0 s1 s2 s3 s4 s5 s6; have hs5 := hid (hsp.blk hs.out (by decide) (by decide) (by decide)); have s1 := hs5.out.cell 1; have s2 := hs5.out.cell 2; have s3 := hs5.out.cell 3; have s4 := hs5.out.cell 4; have s5 := hs5.out.cell 5; clear ht hbn hsp hown hor)
            | (go_at_call 11; refine (theirs_any (⟨k1, k2, k3, k4, k5⟩ : DKey) _).mono ?_; rintro e w6 ⟨rfl, hb⟩; have P6 := hid (P5.out.grow hb); have Hb6 := hid hb; clear hb)
            | (go_at_call 10; refine (rbegin_at B gX N l l2 (⟨k1, k2, k3, k4, k5⟩ : DKey) _ code rp _ rfl Hbg.out P6.out.ref P6.out.lo (by have := HL.out.len; have := HN.out.2; omega) HL.out.len HL.out.reps).mono ?_; rintro e w7 ⟨v7, rfl, hown, ht, hbn, hsp, hor⟩; have P7 := hid (P6.out.opX ht hbn hsp); have Hown7 := hid hown; have Hor7 := hid hor; have Hsp7 := hid hsp; clear ht hbn hsp hown hor))
          have Hr5 := hid (Hsp7.out.keepsT.row (own_below Hown5.out Hb6.out) (by decide))
          obtain ⟨rn, hrn⟩ : ∃ n, rp.length = n := ⟨_, rfl⟩
          have Hr5 : Hid (OwnBs w7 w4.heap.size 5 v5 rp) := Hr5
          obtain ⟨A5, cap5, rfl⟩ := slice_len Hr5.out.bs hrn
          obtain ⟨A7, cap7, rfl⟩ := slice_len Hown7.out.bs hrn
          have t1 := run_str Try.underlying34 Try.underlying5 Try.underlying9 Hr5.out.bs
          have t2 := run_str Try.underlying34 Try.underlying5 Try.underlying9 Hown7.out.bs
          have HQ := hid (show rn = 0 ∨ rn ≠ 0 ∧ Below w4.heap.size w4 w7 by
            by_cases h0 : rn = 0
            · exact .inl h0
            · have hne : rp ≠ [] := fun e => h0 (by rw [← hrn, e]; rfl)
              rcases Hor5.out with h | h5
              · exact absurd h hne
              rcases Hor7.out with h | h7
              · exact absurd h hne
              exact .inr ⟨h0, h5.trans ((Hb6.out.mono h5.size).trans (h7.mono (Nat.le_trans h5.size Hb6.out.size)))⟩)
          have Hrn := hid hrn
          have Hrl5 := hid (show rn ≤ 9223372036854775806 by have := rep_le Hbg.out HL.out.reps; omega)
          have Hl2 := hid (show rn ≠ 0 → l2 = l from fun h0 => begin_same Hbg.out (fun e => h0 (by rw [← hrn, e]; rfl)))
          clear s1 s2 s3 s4 s5 hrn
          go_wp2_with fail
          go_loopw [15] (fun i wr => ∃ (j : Nat) (bs : List UInt8), j ≤ rn ∧ i = .int .i64 (j : Int) ∧ bs.length = rn ∧ (rn = 0 ∧ wr = w7 ∨ rn ≠ 0 ∧ Below w4.heap.size w4 wr) ∧ OwnBs wr w4.heap.size 5 (.slice A5 rn cap5) bs) (fun i _ => rn - (intOf i).toNat)
          case atStart => exact ⟨0, rp, Nat.zero_le _, rfl, Hrn.out, HQ.out.imp (fun h => ⟨h, rfl⟩) id, Hr5.out⟩
          case round =>
            obtain ⟨j, bs, hj, rfl, hbs, hor, hown⟩ := hrel
            by_cases hlt : j < rn
            · have hltI : (j : Int) < (rn : Int) := by omega
              obtain ⟨g5, c5, hv, q1, q2, q3⟩ := own_open hown (by omega)
              injection hv with e1 e2 e3
              subst e1; subst e3
              obtain ⟨k9, z9⟩ := own_cell hown j (by omega)
              obtain ⟨hown2, hg2⟩ := own_set hown j 238 (.int .u8 238) rfl
              have Ho2 := hid hown2
              have Hg2 := hid hg2
              have Hbel := hid (show Below w4.heap.size w4 wr by
                rcases hor with ⟨h0, _⟩ | ⟨_, h⟩
                · omega
                · exact h)
              have Hq2 := hid q2
              have hj1 : IntKind.i64.wrap ((j : Int) + 1) = ((j + 1 : Nat) : Int) := by have := Hrl5.out; rw [IntWalk.i64_in _ (by omega)]; omega
              clear hor hown hown2 hg2 q1 q2 q3 e2
              go_wp2_with fail
              exact ⟨⟨j + 1, bs.set j 238, by omega, rfl, by rw [List.length_set]; exact hbs, .inr ⟨by omega, below_own Hbel.out Hg2.out Hq2.out Hbel.out.size⟩, Ho2.out⟩, by simp [intOf]; omega⟩
            · have hltI : ¬ (j : Int) < (rn : Int) := by omega
              have P8 := hid (show Play w wr B gT gX N (m + 1) l2 l2 by
                rcases hor with ⟨_, rfl⟩ | ⟨h0, h⟩
                · exact P7.out
                · rw [Hl2.out h0]
                  have := P4.out.grow h
                  exact ⟨TabInv.mono this.tab (Nat.le_succ m), this.ref, this.bel, this.lo, this.hB⟩)
              clear hor hown hbs
              go_wp2_with fail
              go_meet
              case rel => exact ⟨m + 1, l2, Nat.le_refl _, HL2.out, P8.out⟩
        · have hkI : decide (kind = 1) = false := decide_eq_false hkind
          obtain ⟨l2, code, hen⟩ : ∃ l2 code, drcEnd l (⟨k1, k2, k3, k4, k5⟩ : DKey) rep = (l2, code) := ⟨_, _, rfl⟩
          have Hen := hid hen
          have HL2 := hid (show PlayL N l2 by have := HL.out.ends (⟨k1, k2, k3, k4, k5⟩ : DKey) rep Hrl.out; rw [hen] at this; exact this)
          clear hen
          have s6a : (w4.alloc (.cells #[] 5)).cell? ⟨gs, 6, none⟩ = some (.slice Ar ln capr) := cell_below (below_alloc w4 _) s6
          go_upto_region 24 with ((with_reducible show wpList _ _ _ (Oper.mk (some 102) _ _ _ _ _ :: _) _ _); refine wpList_app8 _ rfl _ _ 34 rfl _ 5 u8ok (.slice (some ⟨_, 0, none⟩) 0 0) [] rfl (ownBs_litNil (by simp) (Nat.le_refl _)) _ rep rfl ((HR0.out.below P4.out.bel).alloc _) (by have := Hrl.out; simp; omega) (by simp) ?_; intro v5 w5 hown hb hg2 hat2; rw [List.nil_append] at hown; clear hg2 hat2; have Hb5 := hid ((below_alloc _ _).trans hb); have Hsz5 := hid hb.size; have Hown5 := hid hown; clear hown hb)
          obtain ⟨A5, cap5, rfl⟩ := slice_len Hown5.out.bs Hln.out
          obtain ⟨gm, hgm1, hgm2, hgm3⟩ : ∃ gm, w4.heap.size ≤ gm ∧ gm < w5.heap.size ∧ (0 < ln → A5 = some ⟨gm, 0, none⟩) := by
            by_cases h0 : 0 < ln
            · obtain ⟨g, c, hv, _, q2, q3⟩ := own_open Hown5.out (by rw [Hln.out]; exact h0)
              injection hv with e1
              exact ⟨g, q2, q3, fun _ => e1⟩
            · exact ⟨w4.heap.size, Nat.le_refl _, by have := Hsz5.out; simp at this; omega, fun h => absurd h h0⟩
          have P5 := hid (P4.out.off Hb5.out hgm1 hgm2)
          have Hgm1 := hid hgm1
          have Hgm3 := hid hgm3
          have HS5 := hid (show w5.cell? ⟨gs, 1, none⟩ = some (.int .u32 (k1 : Int)) ∧ w5.cell? ⟨gs, 2, none⟩ = some (.int .i64 k2) ∧ w5.cell? ⟨gs, 3, none⟩ = some (.int .u32 (k3 : Int)) ∧ w5.cell? ⟨gs, 4, none⟩ = some (.int .u32 (k4 : Int)) ∧ w5.cell? ⟨gs, 5, none⟩ = some (.int .u32 (k5 : Int)) ∧ w5.cell? ⟨gs, 6, none⟩ = some (.slice Ar ln capr) from
            ⟨cell_below Hb5.out (hs.out.cell 1), cell_below Hb5.out (hs.out.cell 2), cell_below Hb5.out (hs.out.cell 3), cell_below Hb5.out (hs.out.cell 4), cell_below Hb5.out (hs.out.cell 5), cell_below Hb5.out s6⟩)
          have hs5 := hid (hs.out.keep Hb5.out)
          have HT := fun wx => theirs_any (⟨k1, k2, k3, k4, k5⟩ : DKey) wx
          dsimp only [DKey.val, DKey.cells] at HT
          clear hgm1 hgm2 hgm3 s0 s6 s6a hs
          go_region_held3 (fun wy => wy.cell? ⟨gs, 1, none⟩ = some (.int .u32 (k1 : Int)) ∧ wy.cell? ⟨gs, 2, none⟩ = some (.int .i64 k2) ∧ wy.cell? ⟨gs, 3, none⟩ = some (.int .u32 (k3 : Int)) ∧ wy.cell? ⟨gs, 4, none⟩ = some (.int .u32 (k4 : Int)) ∧ wy.cell? ⟨gs, 5, none⟩ = some (.int .u32 (k5 : Int)) ∧ wy.cell? ⟨gs, 6, none⟩ = some (.slice Ar ln capr)) (first | exact blk6 hs8.out | exact blk6 (hs8.out.drew) | exact blk6 hs7.out | exact blk6 (hs7.out.drew) | exact blk6 hs6.out | exact blk6 (hs6.out.drew) | exact HS5.out | exact blk6 (hs5.out.drew)) (first
            | (go_at_call 12; refine (endO_at B gT N m gm l l2 (⟨k1, k2, k3, k4, k5⟩ : DKey) _ _ rep code _ rfl Hen.out (P5.out.grow (below_drew _)).tab (P5.out.grow (below_drew _)).gmL (P5.out.grow (below_drew _)).lo (Hown5.out.bs.drew) Hrl.out).mono ?_; rintro e w6 ⟨rfl, ht, hbn, hsp⟩; have P6 := hid ((P5.out.grow (below_drew _)).opT ht hbn hsp); have hs6 := hid (hsp.blk (hs5.out.drew) (by decide) (by decide) (by decide)); have Hown6 := hid (hsp.keepsT.row (Hown5.out.drew) (by decide)); clear ht hbn hsp)
            | (go_at_call 11; (with_reducible refine (HT _).mono ?_); rintro e w7 ⟨rfl, hb⟩; have P7 := hid (P6.out.grow hb); have hs7 := hid (hs6.out.keep hb); have Hown7 := hid (own_below Hown6.out hb); clear hb)
            | (go_at_call 13; refine (rend_at B gX N gm l l2 (⟨k1, k2, k3, k4, k5⟩ : DKey) _ _ rep code _ rfl Hen.out P7.out.ref P7.out.gmL P7.out.lo (by have := HL.out.len; have := HN.out.2; omega) (fun wq hq => HR0.out.below (P7.out.bel.trans (hq.mono P7.out.hB))) Hrl.out).mono ?_; rintro e w8 ⟨rfl, ht, hbn, hsp⟩; have P8 := hid (P7.out.opX ht hbn hsp); have hs8 := hid (hsp.keepsT.blk hs7.out (by decide)); have Hown8 := hid (hsp.keepsT.row Hown7.out (by decide)); clear ht hbn hsp)
            | fail)
          have hneq : ((code : Int) != code) = false := by simp
          clear hs5 hs6 hs7 hs8 HT HS5 P5 P6 P7 Hown5 Hown6 Hown7
          go_wp2_with fail
          go_loopw [17] (fun i wx => ∃ (j : Nat) (bs : List UInt8), j ≤ ln ∧ i = .int .i64 (j : Int) ∧ bs.length = ln ∧ PlayO w wx B gT gX N m l2 l2 gm ∧ OwnBs wx w4.heap.size 5 (.slice A5 ln cap5) bs) (fun i _ => ln - (intOf i).toNat)
          case atStart => exact ⟨0, rep, Nat.zero_le _, rfl, Hln.out, P8.out, Hown8.out⟩
          case round =>
            obtain ⟨j, bs, hj, rfl, hbs, hP, hown⟩ := hrel
            by_cases hlt : j < ln
            · have hltI : (j : Int) < (ln : Int) := by omega
              obtain rfl := Hgm3.out (by omega)
              obtain ⟨k9, z9⟩ := own_cell hown j (by omega)
              obtain ⟨hown2, hg2⟩ := own_set hown j 238 (.int .u8 238) rfl
              obtain ⟨xs9, hb9⟩ := own_block hown
              have Ho2 := hid hown2
              have P9 := hid (hP.wrote hb9 hg2)
              have hbs2 := hid (show (bs.set j 238).length = ln by rw [List.length_set]; exact hbs)
              have hj1 : IntKind.i64.wrap ((j : Int) + 1) = ((j + 1 : Nat) : Int) := by rw [IntWalk.i64_in _ (by omega)]; omega
              clear hown hown2 hg2 hb9 hP
              go_wp2_with fail
              exact ⟨⟨j + 1, bs.set j 238, by omega, rfl, hbs2.out, P9.out, Ho2.out⟩, by simp [intOf]; omega⟩
            · have hltI : ¬ (j : Int) < (ln : Int) := by omega
              have P9 := hid hP
              clear hown hP hbs
              go_wp2_with fail
              go_meet
              case rel => exact ⟨m, l2, Nat.le_succ m, HL2.out, P9.out.play⟩
      · have t1 : (k : Int) < (sn : Int) ∧ ¬ (k : Int) < 150 ∨ ¬ (k : Int) < (sn : Int) := by omega
        rcases t1 with ⟨t1, t2⟩ | t1
        · go_wp2
          go_ret
          exact ⟨rfl, HP.out.bel⟩
        · go_wp2
          go_ret
          exact ⟨rfl, HP.out.bel⟩
end Go.Proofs.Ytkgeccmpekclcaa
