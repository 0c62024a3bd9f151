/- The walk of DrcOnce. -/
import Derived.Test.YtkgeccmpekclcaaDrcS
import Derived.Deep.Cut
import Derived.Deep.CutRange
namespace Go.Proofs.Ytkgeccmpekclcaa
open Go Go.RowKit
attribute [local go_sem ↓] Go.wp_at_zero Go.wp_at_succ
set_option maxRecDepth 100000

def kMe : DKey := ⟨9, 0, 77, 0, 0⟩
theorem kMe_ok : kMe.Ok := ⟨by decide, by decide, by decide, by decide, by decide, by decide⟩
structure OnceSt (w0 wr : World) (B gT n m g9 : Nat) (l : List DCall) : Prop where
  tab : TabInv wr B gT n m l
  key : Blk wr g9 33 #[.int .u32 9, .int .i64 0, .int .u32 77, .int .u32 0, .int .u32 0].toList
  bel : Below w0.heap.size w0 wr
  lo : B ≤ wr.heap.size
  hB : w0.heap.size ≤ B
theorem OnceSt.op {w0 wr w' : World} {B gT n m m' g9 : Nat} {l l' : List DCall} (h : OnceSt w0 wr B gT n m g9 l) (t : TabInv w' B gT n m' l') (b : Below B wr w') (s : Spares wr w') : OnceSt w0 w' B gT n m' g9 l' :=
  ⟨t, s.blk h.key (by decide) (by decide) (by decide), h.bel.trans (b.mono h.hB), Nat.le_trans h.lo b.size, h.hB⟩
theorem OnceSt.grow {w0 wr w' : World} {B gT n m g9 : Nat} {l : List DCall} (h : OnceSt w0 wr B gT n m g9 l) (b : Below wr.heap.size wr w') : OnceSt w0 w' B gT n m g9 l :=
  ⟨h.tab.keep b, h.key.keep b, h.bel.trans (b.mono h.bel.size), Nat.le_trans h.lo b.size, h.hB⟩

set_option maxHeartbeats 4000000 in
theorem drcOnce_walk (n0 : Int) (vq : Value) (xs : List Int) (v : Value) (reply : List UInt8) (w : World) (hq : RowN w 1 vq xs.length (xs.map fun x => Value.int .i64 x)) (h : Bs w v reply) :
    Calls Try.prog 4 #[.int .i64 n0, vq, v] w fun e w' => e = .returned (.bool true) ∧ Below w.heap.size w w' := by
  obtain ⟨Aq, capq, rfl, kq0, kq1, kq2, kq3⟩ := hq.cells
  obtain ⟨ln, hln⟩ : ∃ n, reply.length = n := ⟨_, rfl⟩
  obtain ⟨A, cap, rfl⟩ := slice_len h hln
  have Hln := hid hln
  have HB := hid h
  have HQ := hid hq
  obtain ⟨xn, hxn⟩ : ∃ n, xs.length = n := ⟨_, rfl⟩
  have Hxn := hid hxn
  rw [hxn] at HQ
  rw [hxn]
  clear h hln hq kq0 kq1 kq2 kq3 hxn
  by_cases hbig : ln > 2000
  · have g1 : (ln : Int) > 2000 := by omega
    go_enter Try.func4, Try.ntmps4
    go_wp2_with (((go_at_call 6; refine (known_any _).mono ?_; rintro e w' ⟨rfl, hb1⟩); have Hb1 := hid hb1; clear hb1))
    go_ret
    exact ⟨rfl, Hb1.out⟩
  have g1 : ¬ (ln : Int) > 2000 := by omega
  have hm0 : (n0.tmod 20).natAbs < 20 := by rw [Int.natAbs_tmod]; exact Nat.mod_lt _ (by omega)
  have hm1 : -20 < n0.tmod 20 := by omega
  have hm2 : n0.tmod 20 < 20 := by omega
  clear hm0
  have hw1 : IntKind.i64.wrap (n0.tmod 20) = n0.tmod 20 := IntWalk.i64_in _ (by omega)
  have hw2 : IntKind.i64.wrap (1 + n0.tmod 20) = 1 + n0.tmod 20 := IntWalk.i64_in _ (by omega)
  go_enter Try.func4, Try.ntmps4
  go_upto_region 6 with (((go_at_call 6; refine (known_any _).mono ?_; rintro e w' ⟨rfl, hb1⟩); have Hb1 := hid hb1; clear hb1))
  generalize n0.tmod 20 = r at *
  generalize w' = w1 at *
  go_cut [0, 28] from 27 to 28 (fun s t wx => wx = w1 ∧ s = .int .i64 (1 + r) ∧ t = .bool (decide (1 + r < 1)))
  case first =>
    go_wp2
    go_meet
    case rel => exact ⟨rfl, rfl, rfl⟩
  case rest =>
  obtain ⟨rfl, rfl, rfl⟩ := hcut
  go_step
  go_cut [0] from 28 to 30 (fun s wx => wx = wc ∧ ∃ N : Nat, 1 ≤ N ∧ N ≤ 20 ∧ s = .int .i64 (N : Int))
  case first =>
    by_cases hr : 1 + r < 1
    · have hw3 : IntKind.i64.wrap (2 - (1 + r)) = 2 - (1 + r) := IntWalk.i64_in _ (by omega)
      have hd : decide (1 + r < 1) = true := decide_eq_true hr
      go_wp2
      go_meet
      case rel => exact ⟨rfl, (2 - (1 + r)).toNat, by omega, by omega, val_int (by omega)⟩
    · have hd : decide (1 + r < 1) = false := decide_eq_false hr
      go_wp2
      go_meet
      case rel => exact ⟨rfl, (1 + r).toNat, by omega, by omega, val_int (by omega)⟩
  case rest =>
  obtain ⟨rfl, N, hN1, hN2, rfl⟩ := hcut
  obtain ⟨f1, f2, f3, f4⟩ := once_first N reply kMe hN1 (by rw [Hln.out]; omega)
  have F1 := hid f1
  have F2 := hid f2
  have F3 := hid f3
  have F4 := hid f4
  have HN1 := hid hN1
  have HN2 := hid hN2
  clear f1 f2 f3 f4 hN1 hN2 hm1 hm2 hw1 hw2
  go_upto_region 12 with (first
    | (go_at_call 7; refine (new_ok N N _ rfl HN1.out (by have := HN2.out; omega)).mono ?_; rintro e w2 ⟨gT, rfl, ht, hb2⟩; unfold ptrV; have T2 := hid ht; have Hb2 := hid hb2; clear ht hb2))
  have S2 := hid (show OnceSt w (w2.alloc (.cells #[.int .u32 9, .int .i64 0, .int .u32 77, .int .u32 0, .int .u32 0] 33)) _ gT N 0 w2.heap.size [] from
    ⟨T2.out.keep (below_alloc _ _), Blk.new _ _ _, (Hb1.out.trans (Hb2.out.mono Hb1.out.size)).trans ((below_alloc w2 _).mono (by have := Hb1.out.size; have := Hb2.out.size; omega)), by have := Hb2.out.size; simp; omega, Hb1.out.size⟩)
  have hq := S2.out.key
  have q0 := hq.cell 0; have q1 := hq.cell 1; have q2 := hq.cell 2; have q3 := hq.cell 3; have q4 := hq.cell 4; clear hq
  clear Hb1 Hb2 T2
  generalize w2.alloc (.cells #[.int .u32 9, .int .i64 0, .int .u32 77, .int .u32 0, .int .u32 0] 33) = w3 at *
  generalize w2.heap.size = g9 at S2 q0 q1 q2 q3 q4 ⊢
  generalize wc.heap.size = B at S2
  go_wp2_with (first
    | (go_at_call 9; refine (begin_at B gT N 0 [] [⟨kMe, false, []⟩] kMe _ 1 [] _ rfl F1.out S2.out.tab S2.out.lo kMe_ok (by have := HN2.out; omega) (by simp) (by decide) (by simp)).mono ?_; rintro e w4 ⟨v4, rfl, _, ht, hbn, hsp⟩; have S4 := hid (S2.out.op ht hbn hsp); clear q0 q1 q2 q3 q4; have hq := S4.out.key; have q0 := hq.cell 0; have q1 := hq.cell 1; have q2 := hq.cell 2; have q3 := hq.cell 3; have q4 := hq.cell 4; clear hq; clear ht hbn hsp)
    | (go_at_call 12; refine (end_at B gT N 1 [⟨kMe, false, []⟩] [⟨kMe, true, reply⟩] kMe _ _ reply 0 _ rfl F2.out S4.out.tab S4.out.lo (HB.out.below S4.out.bel) (by have := Hln.out; omega)).mono ?_; rintro e w5 ⟨rfl, ht, hbn, hsp⟩; have S5 := hid (S4.out.op ht hbn hsp); clear q0 q1 q2 q3 q4; have hq := S5.out.key; have q0 := hq.cell 0; have q1 := hq.cell 1; have q2 := hq.cell 2; have q3 := hq.cell 3; have q4 := hq.cell 4; clear hq; clear ht hbn hsp)
    | (go_at_call 12; refine (end_at B gT N 1 [⟨kMe, true, reply⟩] [⟨kMe, true, reply⟩] kMe _ _ reply 2 _ rfl F3.out S5.out.tab S5.out.lo (HB.out.below S5.out.bel) (by have := Hln.out; omega)).mono ?_; rintro e w6 ⟨rfl, ht, hbn, hsp⟩; have S6 := hid (S5.out.op ht hbn hsp); clear q0 q1 q2 q3 q4; have hq := S6.out.key; have q0 := hq.cell 0; have q1 := hq.cell 1; have q2 := hq.cell 2; have q3 := hq.cell 3; have q4 := hq.cell 4; clear hq; clear ht hbn hsp))
  go_loopw [12, 13] (fun bg i wr => ∃ (k began m : Nat) (l : List DCall), k ≤ 60 ∧ i = .int .i64 (k : Int) ∧ bg = .int .i64 (began : Int) ∧ began ≤ k ∧ m ≤ 3 * k + 1 ∧ OnceAt N began reply kMe l ∧ OnceSt w wr B gT N m g9 l) (fun _ i _ => 60 - (intOf i).toNat)
  case atStart => exact ⟨0, 0, 1, _, by omega, rfl, rfl, by omega, by omega, F4.out, S6.out⟩
  case round =>
    obtain ⟨k, began, m, l, hk60, rfl, rfl, hbk, hm, hO, hS⟩ := hrel
    have HO := hid hO
    have HS := hid hS
    have Hm := hid hm
    have Hbk := hid hbk
    have hq := hS.key
    have q0 := hq.cell 0; have q1 := hq.cell 1; have q2 := hq.cell 2; have q3 := hq.cell 3; have q4 := hq.cell 4; clear hq
    by_cases hkl : k < xn ∧ k < 60
    · obtain ⟨hkl1, hkl2⟩ := hkl
      have t1 : (k : Int) < (xn : Int) := by omega
      have t2 : (k : Int) < 60 := by omega
      obtain ⟨_, A', cap', hv', _, _, hA⟩ := HQ.out.below hS.bel
      injection hv' with e1 _ e2
      subst e1; subst e2
      obtain ⟨gb, off, rfl, hcell⟩ : ∃ gb off, Aq = some ⟨gb, off, none⟩ ∧ ∀ i x, (xs.map fun x => Value.int .i64 x)[i]? = some x → wr.cell? ⟨gb, off + i, none⟩ = some x := by
        rcases hA with h0 | h0
        · omega
        · exact h0
      have hkx : k < xs.length := by rw [Hxn.out]; exact hkl1
      have hc := hcell k (.int .i64 xs[k]) (by rw [List.getElem?_map, List.getElem?_eq_getElem hkx]; rfl)
      generalize xs[k] = x at hc
      obtain ⟨xid, hx1, hx2⟩ : ∃ xid : Nat, IntKind.u32.wrap x = (xid : Int) ∧ xid ≤ 4294967295 := by
        rw [IntKind.wrap_u32]
        exact ⟨(x % 4294967296).toNat, by omega, by omega⟩
      obtain ⟨kx, hkx2⟩ : ∃ kx : DKey, kx = ⟨1, 0, xid, 0, 0⟩ := ⟨_, rfl⟩
      have Hkx := hid (show kx.Ok by subst hkx2; exact ⟨by simp, by simp, by simp, by simp; omega, by simp, by simp⟩)
      have Hkv := hid hkx2
      obtain ⟨code, rep, l1, hbg⟩ : ∃ code rep l1, drcBegin N l kx = ((code, rep), l1) := ⟨_, _, _, rfl⟩
      have Hbg := hid hbg
      clear hkx2 hbg hA hcell hkx hx2 hO hm hbk hS hkl1 hkl2
      go_upto_region 20 with (fail)
      have R1 := hid (HS.out.grow (below_alloc wr (.cells #[.int .u32 1, .int .i64 0, .int .u32 (xid : Int), .int .u32 0, .int .u32 0] 33)))
      have hp : Blk (wr.alloc (.cells #[.int .u32 1, .int .i64 0, .int .u32 (xid : Int), .int .u32 0, .int .u32 0] 33)) wr.heap.size 33 #[.int .u32 1, .int .i64 0, .int .u32 (xid : Int), .int .u32 0, .int .u32 0].toList := Blk.new _ _ _
      have Bk := hid hp
      have p0 := hp.cell 0; have p1 := hp.cell 1; have p2 := hp.cell 2; have p3 := hp.cell 3; have p4 := hp.cell 4; clear hp
      generalize wr.alloc (.cells #[.int .u32 1, .int .i64 0, .int .u32 (xid : Int), .int .u32 0, .int .u32 0] 33) = wx at *
      generalize wr.heap.size = gk at Bk p0 p1 p2 p3 p4 ⊢
      go_upto_region 21 with (first
        | (go_at_call 9; refine (begin_at B gT N m l l1 kx _ code rep _ (by rw [Hkv.out]; rfl) Hbg.out R1.out.tab R1.out.lo Hkx.out (by have := HN2.out; omega) HO.out.len (by have := Hm.out; omega) HO.out.reps).mono ?_; rintro e w4 ⟨v4, rfl, _, ht, hbn, hsp⟩; have R4 := hid (R1.out.op ht hbn hsp); have Bk4 := hid (hsp.blk Bk.out (by decide) (by decide) (by decide)); clear q0 q1 q2 q3 q4; clear p0 p1 p2 p3 p4; have hq := R4.out.key; have q0 := hq.cell 0; have q1 := hq.cell 1; have q2 := hq.cell 2; have q3 := hq.cell 3; have q4 := hq.cell 4; clear hq; have hp := Bk4.out; have p0 := hp.cell 0; have p1 := hp.cell 1; have p2 := hp.cell 2; have p3 := hp.cell 3; have p4 := hp.cell 4; clear hp; clear ht hbn hsp))
      obtain ⟨bg2, hbg2⟩ : ∃ bg2 : Nat, bg2 = if code = 1 then began + 1 else began := ⟨_, rfl⟩
      obtain ⟨l2, code2, hen⟩ : ∃ l2 code2, drcEnd l1 kx [] = (l2, code2) := ⟨_, _, rfl⟩
      have Hen := hid hen
      have HO2 := hid (show OnceAt N bg2 reply kMe l2 by
        have h := once_step (k := kx) HO.out HN1.out
        rw [Hbg.out] at h
        dsimp only at h
        rw [hen, ← hbg2] at h
        exact h)
      have Hb2 := hid (show bg2 ≤ began + 1 by rw [hbg2]; split <;> omega)
      have hw3 : IntKind.i64.wrap ((began : Int) + 1) = ((began + 1 : Nat) : Int) := by rw [IntWalk.i64_in _ (by have := Hbk.out; omega)]; omega
      clear hen
      go_cut [88] from 87 to 88 (fun t wx => wx = w4 ∧ ∃ bc, t = .bool bc ∧ (bc = true ↔ code = 1))
      case first =>
        go_wp2
        go_meet
        case rel => exact ⟨rfl, _, rfl, decide_eq_true_iff⟩
      case rest =>
      obtain ⟨rfl, bc, rfl, hbc⟩ := hcut
      go_step
      go_cut [12] from 88 to 90 (fun s wx => wx = wc ∧ s = .int .i64 (bg2 : Int))
      case first =>
        cases bc with
        | true =>
          rw [if_pos (hbc.1 rfl)] at hbg2
          clear hbc
          subst hbg2
          go_wp2
          go_meet
          case rel => exact ⟨rfl, rfl⟩
        | false =>
          rw [if_neg fun h => Bool.noConfusion (hbc.2 h)] at hbg2
          clear hbc
          subst hbg2
          go_wp2
          go_meet
          case rel => exact ⟨rfl, rfl⟩
      case rest =>
      obtain ⟨rfl, rfl⟩ := hcut
      clear hbc
      clear hbg2 hw3
      have hle : ¬ (l2.length : Int) > (N : Int) := by have := HO2.out.len; omega
      go_upto_region 26 with (first
        | (go_at_call 12; refine (end_at B gT N (m + 1) l1 l2 kx _ _ [] code2 _ (by rw [Hkv.out]; rfl) Hen.out R4.out.tab R4.out.lo (Bs.nil _) (by simp)).mono ?_; rintro e w5 ⟨rfl, ht, hbn, hsp⟩; have R5 := hid (R4.out.op ht hbn hsp); clear q0 q1 q2 q3 q4; clear p0 p1 p2 p3 p4; have hq := R5.out.key; have q0 := hq.cell 0; have q1 := hq.cell 1; have q2 := hq.cell 2; have q3 := hq.cell 3; have q4 := hq.cell 4; clear hq; clear ht hbn hsp)
        | (go_at_call 14; refine (knownL_any B gT N (m + 1) l2 _ R5.out.tab (by have := HO2.out.len; have := HN2.out; omega)).mono ?_; rintro e w6 ⟨v6, rfl, hown, hb⟩; have R6 := hid (R5.out.grow hb); obtain ⟨_, A6, cap6, rfl, _, _, _⟩ := RowN.of_own hown; clear hown hb; clear q0 q1 q2 q3 q4; have hq := R6.out.key; have q0 := hq.cell 0; have q1 := hq.cell 1; have q2 := hq.cell 2; have q3 := hq.cell 3; have q4 := hq.cell 4; clear hq))
      clear hle
      have hk1 : IntKind.i64.wrap ((k : Int) + 1) = ((k + 1 : Nat) : Int) := by rw [IntWalk.i64_in _ (by omega)]; omega
      by_cases hb : bg2 < N
      · have hb1 : (bg2 : Int) < (N : Int) := by omega
        have Hit := hid (once_hit HO2.out hb)
        go_upto_region 28 with (first
          | (go_at_call 9; refine (begin_at B gT N (m + 1) l2 l2 kMe _ 3 reply _ rfl Hit.out R6.out.tab R6.out.lo kMe_ok (by have := HN2.out; omega) HO2.out.len (by have := Hm.out; omega) HO2.out.reps).mono ?_; rintro e w7 ⟨v7, rfl, hown, ht, hbn, hsp⟩; have R7 := hid (R6.out.op ht hbn hsp); have Hown7 := hid hown.bs; clear q0 q1 q2 q3 q4; have hq := R7.out.key; have q0 := hq.cell 0; have q1 := hq.cell 1; have q2 := hq.cell 2; have q3 := hq.cell 3; have q4 := hq.cell 4; clear hq; clear ht hbn hsp hown))
        obtain ⟨A7, cap7, rfl⟩ := slice_len Hown7.out Hln.out
        have s1 := run_str Try.underlying34 Try.underlying5 Try.underlying9 Hown7.out
        have s2 := run_str Try.underlying34 Try.underlying5 Try.underlying9 (HB.out.below R7.out.bel)
        clear hb1
        go_wp2
        go_roundw
        case rel => exact ⟨k + 1, bg2, m + 2, l2, by omega, rfl, rfl, by have := Hb2.out; have := Hbk.out; omega, by have := Hm.out; omega, HO2.out, R7.out⟩
        case measure => simp [intOf]; omega
      · have hb1 : ¬ (bg2 : Int) < (N : Int) := by omega
        go_wp2
        go_roundw
        case rel => exact ⟨k + 1, bg2, m + 1, l2, by omega, rfl, rfl, by have := Hb2.out; have := Hbk.out; omega, by have := Hm.out; omega, HO2.out, R6.out⟩
        case measure => simp [intOf]; omega
    · have t1 : (k : Int) < (xn : Int) ∧ ¬ (k : Int) < 60 ∨ ¬ (k : Int) < (xn : Int) := by omega
      rcases t1 with ⟨t1, t2⟩ | t1
      · go_wp2
        go_ret
        exact ⟨rfl, HS.out.bel⟩
      · go_wp2
        go_ret
        exact ⟨rfl, HS.out.bel⟩
end Go.Proofs.Ytkgeccmpekclcaa
