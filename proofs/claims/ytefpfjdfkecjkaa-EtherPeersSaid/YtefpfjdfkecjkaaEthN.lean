/- The document's peers in memory; their Learn. -/
import Derived.Test.YtefpfjdfkecjkaaEthM
import Derived.Deep.Cut
import Derived.Deep.CutRange
namespace Go.Proofs.Ytefpfjdfkecjkaa
open Go Go.RowKit
attribute [local go_sem ↓] Go.wp_at_zero Go.wp_at_succ
set_option maxRecDepth 100000

def pCells (p : Peer) : List Value := .int .u32 (p.1 : Int) :: p.2.cells
def pRow (l : List Peer) : List Value := l.flatMap pCells
theorem pCells_len (p : Peer) : (pCells p).length = 7 := rfl
theorem pRow_append (L M : List Peer) : pRow (L ++ M) = pRow L ++ pRow M := by simp [pRow]
theorem pRow_one (p : Peer) : pRow [p] = pCells p := by simp [pRow]
theorem pRow_len (L : List Peer) : (pRow L).length = L.length * 7 := by
  induction L with
  | nil => rfl
  | cons x L ih => simp only [pRow, List.flatMap_cons, List.length_append, List.length_cons] at *; rw [ih, pCells_len]; omega
theorem pRow_at (L : List Peer) (i j : Nat) (hi : i < L.length) (hj : j < 7) : (pRow L)[i * 7 + j]? = (pCells L[i])[j]? := by
  induction L generalizing i with
  | nil => simp at hi
  | cons x L ih =>
    rw [show pRow (x :: L) = pCells x ++ pRow L from rfl]
    cases i with
    | zero => rw [List.getElem?_append_left (by rw [pCells_len]; omega)]; simp
    | succ i =>
      rw [List.getElem?_append_right (by rw [pCells_len]; omega), pCells_len, show (i + 1) * 7 + j - 7 = i * 7 + j by omega, ih i (by simpa using hi)]
      rfl
theorem pRow_drop1 (L : List Peer) : pRow (L.drop 1) = (pRow L).drop 7 := by
  cases L with
  | nil => rfl
  | cons x L => rfl
theorem peerinfo : (Try.prog.info? 57).map (fun i => (i.zero, i.size, i.bytes)) = some (some (.agg #[.int .u32 0, .int .u8 0, .int .u8 0, .int .u8 0, .int .u8 0, .int .u8 0, .int .u8 0]), 7, 12) := by kernel_rfl
theorem peerok : ElemOk Try.prog 45 57 (.agg #[.int .u32 0, .int .u8 0, .int .u8 0, .int .u8 0, .int .u8 0, .int .u8 0, .int .u8 0]) 7 12 := by
  obtain ⟨i, hi, hz, hs, hb⟩ := info_parts peerinfo
  exact ⟨Try.underlying45, ⟨i, hi, hz, hs, hb⟩, rfl, by decide, by decide⟩
theorem pRow_one' (l : List Peer) : ∀ u ∈ pRow l, u.oneCell' = true := by
  intro u hu
  obtain ⟨p, _, hp⟩ := List.mem_flatMap.1 hu
  simp [pCells, Mac.cells] at hp
  rcases hp with rfl | rfl | rfl | rfl | rfl | rfl | rfl <;> rfl

theorem cutP_from (A : Option Addr) (n cap : Nat) (lo : Int) (l k : Nat) (h1 : lo = l) (h2 : n = l + k) (h3 : n ≤ cap) (w : World) :
    (Instr.sliceAt 45 (.slice A n cap) (some (.int .i64 lo)) none none).run Try.prog w = .ok (.slice (cutA A cap l 7) k (cap - l)) w := by
  obtain ⟨i, hi, _, hs, _⟩ := info_parts peerinfo
  have := run_cut_from (P := Try.prog) (T := 45) Try.underlying45 hi A n cap .i64 lo l k h1 h2 h3 w
  rwa [hs] at this
structure RPAt (w : World) (base gX : Nat) (mac : Mac) (ip : Nat) (l : List Peer) (vL : Value) (FX : Nat → Prop) : Prop where
  tab : Blk w gX 47 (mac.cells ++ [.int .u32 (ip : Int), vL])
  row : RowAtS w base 57 7 vL l.length (pRow l)
  len : l.length ≤ 16
  fg : FX gX
  fr : ∀ k, vL.ownBlock = some k → FX k
  flt : ∀ k, FX k → base ≤ k ∧ k < w.heap.size
/-- the document's peers in block gX; FX: their blocks -/
def RPInv (w : World) (base gX : Nat) (mac : Mac) (ip : Nat) (l : List Peer) (FX : Nat → Prop) : Prop := ∃ vL, RPAt w base gX mac ip l vL FX
theorem RPAt.same {w w' : World} {base gX : Nat} {mac : Mac} {ip : Nat} {l : List Peer} {vL : Value} {FX : Nat → Prop} (h : RPAt w base gX mac ip l vL FX) (hs : ∀ k, FX k → w'.heap[k]? = w.heap[k]?) (hz : w.heap.size ≤ w'.heap.size) : RPAt w' base gX mac ip l vL FX :=
  ⟨(hs gX h.fg).trans h.tab, h.row.same fun k hk => hs k (h.fr k hk), h.len, h.fg, h.fr, fun k hk => ⟨(h.flt k hk).1, Nat.lt_of_lt_of_le (h.flt k hk).2 hz⟩⟩
theorem RPAt.keep {w w' : World} {base gX : Nat} {mac : Mac} {ip : Nat} {l : List Peer} {vL : Value} {FX : Nat → Prop} (h : RPAt w base gX mac ip l vL FX) (hb : Below w.heap.size w w') : RPAt w' base gX mac ip l vL FX :=
  h.same (fun k hk => hb.block k (h.flt k hk).2) hb.size
theorem RPInv.keep {w w' : World} {base gX : Nat} {mac : Mac} {ip : Nat} {l : List Peer} {FX : Nat → Prop} (h : RPInv w base gX mac ip l FX) (hb : Below w.heap.size w w') : RPInv w' base gX mac ip l FX := by
  obtain ⟨vL, h⟩ := h
  exact ⟨vL, h.keep hb⟩
theorem RPInv.lt {w : World} {base gX : Nat} {mac : Mac} {ip : Nat} {l : List Peer} {FX : Nat → Prop} (h : RPInv w base gX mac ip l FX) (k : Nat) (hk : FX k) : base ≤ k ∧ k < w.heap.size := by
  obtain ⟨vL, h⟩ := h
  exact h.flt k hk
theorem RPInv.frame {w w' : World} {base gX : Nat} {mac : Mac} {ip : Nat} {l : List Peer} {FX F : Nat → Prop} (h : RPInv w base gX mac ip l FX) (hf : Frame F w w') (hd : ∀ k, FX k → ¬ F k) : RPInv w' base gX mac ip l FX := by
  obtain ⟨vL, h⟩ := h
  exact ⟨vL, h.same (fun k hk => hf.block k (h.flt k hk).2 (hd k hk)) hf.size⟩

def RLearnPost (base gX : Nat) (mac : Mac) (ip : Nat) (l : List Peer) (FX : Nat → Prop) (x : Nat) (mm : Mac) (w : World) (e : Ending) (w' : World) : Prop :=
  (∃ u, e = .returned u) ∧ ∃ FX', RPInv w' base gX mac ip (pLearn l x mm) FX' ∧ Frame FX w w' ∧ ∀ k, FX' k → FX k ∨ w.heap.size ≤ k
set_option maxHeartbeats 4000000 in
theorem rlearn_any (base gX : Nat) (mac : Mac) (ip : Nat) (l : List Peer) (FX : Nat → Prop) (x : Nat) (mm : Mac) (w : World) (h : RPInv w base gX mac ip l FX) (hb : base ≤ w.heap.size) :
    Calls Try.prog 16 #[.pointer (some ⟨gX, 0, none⟩), .int .u32 (x : Int), mm.val] w (RLearnPost base gX mac ip l FX x mm w) := by
  obtain ⟨vL, h⟩ := h
  obtain ⟨a0, a1, a2, a3, a4, a5⟩ := mm
  by_cases hx0 : x = 0
  · have hp := hid (show pLearn l x ⟨a0, a1, a2, a3, a4, a5⟩ = l by unfold pLearn; rw [if_pos hx0])
    have hx0I : ((x : Int) == 0) = true := by simp; omega
    have H := hid h
    clear h hx0 hb
    dsimp only [Mac.val, Mac.cells]
    go_enter Try.func16, Try.ntmps16
    go_wp2_with fail
    refine bodyPost_ret (v := .tuple #[]) (results_none rfl _ _ _) rfl ?_
    have hb := below_alloc w (.cells #[.int .u8 (a0.toNat : Int), .int .u8 (a1.toNat : Int), .int .u8 (a2.toNat : Int), .int .u8 (a3.toNat : Int), .int .u8 (a4.toNat : Int), .int .u8 (a5.toNat : Int)] 23)
    unfold RLearnPost
    rw [hp.out]
    exact ⟨⟨_, rfl⟩, FX, ⟨vL, H.out.keep hb⟩, Below.frameF hb FX, fun k hk => .inl hk⟩
  have hx0I : ((x : Int) == 0) = false := by simp; omega
  have Hp := hid (show pLearn l x ⟨a0, a1, a2, a3, a4, a5⟩ = (if (l.filter (fun p : Peer => !decide (p.1 = x))).length = 16 then (l.filter (fun p : Peer => !decide (p.1 = x))).drop 1 else l.filter (fun p : Peer => !decide (p.1 = x))) ++ [(x, ⟨a0, a1, a2, a3, a4, a5⟩)] by unfold pLearn; rw [if_neg hx0])
  have H := hid h
  have K1 := hid (h.keep (below_alloc w (.cells #[.int .u8 (a0.toNat : Int), .int .u8 (a1.toNat : Int), .int .u8 (a2.toNat : Int), .int .u8 (a3.toNat : Int), .int .u8 (a4.toNat : Int), .int .u8 (a5.toNat : Int)] 23)))
  have hB1 := Blk.new w 23 #[.int .u8 (a0.toNat : Int), .int .u8 (a1.toNat : Int), .int .u8 (a2.toNat : Int), .int .u8 (a3.toNat : Int), .int .u8 (a4.toNat : Int), .int .u8 (a5.toNat : Int)]
  have B1 := hid hB1
  have Hw1 := hid (below_alloc w (.cells #[.int .u8 (a0.toNat : Int), .int .u8 (a1.toNat : Int), .int .u8 (a2.toNat : Int), .int .u8 (a3.toNat : Int), .int .u8 (a4.toNat : Int), .int .u8 (a5.toNat : Int)] 23))
  have Hsz := hid (show (w.alloc (.cells #[.int .u8 (a0.toNat : Int), .int .u8 (a1.toNat : Int), .int .u8 (a2.toNat : Int), .int .u8 (a3.toNat : Int), .int .u8 (a4.toNat : Int), .int .u8 (a5.toNat : Int)] 23)).heap.size = w.heap.size + 1 by simp)
  have Hb := hid hb
  clear h hB1 hx0 hb
  dsimp only [Mac.val, Mac.cells]
  go_enter Try.func16, Try.ntmps16
  go_upto_region 4 with fail
  generalize w.alloc (.cells #[.int .u8 (a0.toNat : Int), .int .u8 (a1.toNat : Int), .int .u8 (a2.toNat : Int), .int .u8 (a3.toNat : Int), .int .u8 (a4.toNat : Int), .int .u8 (a5.toNat : Int)] 23) = ws at *
  obtain ⟨n, hn⟩ : ∃ n, l.length = n := ⟨_, rfl⟩
  have Hn := hid hn
  obtain ⟨A, cap, rfl⟩ := K1.out.row.slice
  have Hrow := hid K1.out.row.rowN
  rw [hn] at Hrow
  have Hfl16 := hid (Nat.le_trans (List.length_filter_le (fun p : Peer => !decide (p.1 = x)) l) H.out.len)
  go_loopw [6, 7] (fun s6 i wr => ∃ (j : Nat), j ≤ n ∧ i = .int .i64 (j : Int) ∧ wr.ownsRow ws.heap.size 57 7 s6 ((l.take j).filter (fun p : Peer => !decide (p.1 = x))).length (pRow ((l.take j).filter (fun p : Peer => !decide (p.1 = x)))) ∧ Below ws.heap.size ws wr) (fun _ i _ => n - (intOf i).toNat)
  case atStart => exact ⟨0, by omega, rfl, World.ownsRow_nil _ _ _ _, Below.refl _ _⟩
  case round =>
    obtain ⟨j, hj, rfl, hown, hbw⟩ := hrel
    have c7 : wr.cell? ⟨gX, 7, none⟩ = some (.slice A n cap) := by have := (K1.out.keep hbw).tab.cell 7; rw [hn] at this; exact this
    have hn16 : n ≤ 16 := by rw [← hn]; exact H.out.len
    by_cases hlt : j < n
    · have t3 : (j : Int) < (n : Int) := by omega
      obtain ⟨_, A', cap', hv', _, _, hA⟩ := Hrow.out.below hbw
      injection hv' with e1 _ e2
      subst e1; subst e2
      obtain ⟨gr, ofr, rfl, hcell⟩ := hA.resolve_left (by omega)
      have hjl : j < l.length := by rw [hn]; exact hlt
      have hcx := fun f (hf : f < 7) y (hy : (pCells l[j])[f]? = some y) => hcell (j * 7 + f) y ((pRow_at l j f hjl hf).trans hy)
      have hj1 : IntKind.i64.wrap ((j : Int) + 1) = ((j + 1 : Nat) : Int) := by rw [IntWalk.i64_in _ (by omega)]; omega
      have htk : l.take (j + 1) = l.take j ++ [l[j]] := take_snoc l j hjl
      obtain ⟨⟨y, b0, b1, b2, b3, b4, b5⟩, hy⟩ : ∃ p, l[j] = p := ⟨_, rfl⟩
      rw [hy] at hcx htk
      have d0 : wr.cell? ⟨gr, ofr + j * 7, none⟩ = some (.int .u32 (y : Int)) := (by rw [← Nat.add_zero (j * 7)]; exact hcx 0 (by decide) _ rfl)
      have d1 : wr.cell? ⟨gr, ofr + j * 7 + 1, none⟩ = some (.int .u8 (b0.toNat : Int)) := (by rw [Nat.add_assoc]; exact hcx 1 (by decide) _ rfl)
      have d2 : wr.cell? ⟨gr, ofr + j * 7 + 2, none⟩ = some (.int .u8 (b1.toNat : Int)) := (by rw [Nat.add_assoc]; exact hcx 2 (by decide) _ rfl)
      have d3 : wr.cell? ⟨gr, ofr + j * 7 + 3, none⟩ = some (.int .u8 (b2.toNat : Int)) := (by rw [Nat.add_assoc]; exact hcx 3 (by decide) _ rfl)
      have d4 : wr.cell? ⟨gr, ofr + j * 7 + 4, none⟩ = some (.int .u8 (b3.toNat : Int)) := (by rw [Nat.add_assoc]; exact hcx 4 (by decide) _ rfl)
      have d5 : wr.cell? ⟨gr, ofr + j * 7 + 5, none⟩ = some (.int .u8 (b4.toNat : Int)) := (by rw [Nat.add_assoc]; exact hcx 5 (by decide) _ rfl)
      have d6 : wr.cell? ⟨gr, ofr + j * 7 + 6, none⟩ = some (.int .u8 (b5.toNat : Int)) := (by rw [Nat.add_assoc]; exact hcx 6 (by decide) _ rfl)
      have Htk := hid htk
      have Hown := hid hown
      have Hbw := hid hbw
      have Hql := hid (show ((l.take j).filter (fun p : Peer => !decide (p.1 = x))).length ≤ 16 from Nat.le_trans (List.length_filter_le _ _) (by simp; omega))
      clear hA hcell htk hown hbw hcx hy hjl hn
      by_cases hyx : y = x
      · have hyb : ((y : Int) != (x : Int)) = false := by simp; omega
        have He := hid (show (l.take (j + 1)).filter (fun p : Peer => !decide (p.1 = x)) = (l.take j).filter (fun p : Peer => !decide (p.1 = x)) by rw [Htk.out, List.filter_append]; simp [hyx])
        clear hyx
        go_wp2_with fail
        go_roundw
        case rel => exact ⟨j + 1, by omega, rfl, by rw [He.out]; exact Hown.out, Hbw.out⟩
        case measure => simp [intOf]; omega
      · have hyb : ((y : Int) != (x : Int)) = true := by simp; omega
        have He := hid (show (l.take (j + 1)).filter (fun p : Peer => !decide (p.1 = x)) = ((l.take j).filter (fun p : Peer => !decide (p.1 = x))) ++ [(y, ⟨b0, b1, b2, b3, b4, b5⟩)] by rw [Htk.out, List.filter_append]; simp [hyx])
        clear hyx
        generalize ((l.take j).filter (fun p : Peer => !decide (p.1 = x))) = q at *
        go_wp2_with ((with_reducible show wpList _ _ _ (Oper.mk (some 38) _ _ _ _ _ :: _) _ _); refine wpList_app _ rfl _ _ 45 rfl ws.heap.size 57 (.agg #[.int .u32 0, .int .u8 0, .int .u8 0, .int .u8 0, .int .u8 0, .int .u8 0, .int .u8 0]) 7 12 peerok _ q.length (pRow q) rfl (Hown.out.alloc _) _ 1 [.int .u32 (y : Int), .int .u8 (b0.toNat : Int), .int .u8 (b1.toNat : Int), .int .u8 (b2.toNat : Int), .int .u8 (b3.toNat : Int), .int .u8 (b4.toNat : Int), .int .u8 (b5.toNat : Int)] rfl (rowS_lit 7 #[.int .u32 (y : Int), .int .u8 (b0.toNat : Int), .int .u8 (b1.toNat : Int), .int .u8 (b2.toNat : Int), .int .u8 (b3.toNat : Int), .int .u8 (b4.toNat : Int), .int .u8 (b5.toNat : Int)] 1 _ rfl rfl (by simp [maxLen])) (by simp [Value.oneCell']) (by have := Hql.out; omega) (by have := Hql.out; simp only [maxLen]; omega) (by have := Hbw.out.size; simp; omega) ?_; intro v1 w1 hown1 hg1 hat1; clear hat1; have Hown1 := hid hown1; have Hb1 := hid ((Hbw.out.alloc Hbw.out.size _).trans (grown_below (Hown.out.alloc _) (by have := Hbw.out.size; simp; omega) hg1)); clear hown1 hg1)
        go_roundw
        case rel => exact ⟨j + 1, by omega, rfl, by rw [He.out, List.length_append, pRow_append, pRow_one]; exact Hown1.out, Hb1.out⟩
        case measure => simp [intOf]; omega
    · obtain rfl : j = n := by omega
      have t3 : ¬ (j : Int) < (j : Int) := by omega
      have e1 : l.take j = l := List.take_of_length_le (by rw [hn]; exact Nat.le_refl _)
      rw [e1] at hown
      generalize l.filter (fun p : Peer => !decide (p.1 = x)) = q at *
      have Hown := hid hown
      have Hbw := hid hbw
      have hsl := RowAtS.slice (RowAtS.of_own hown)
      obtain ⟨A5, cap5, rfl⟩ := hsl
      have Hcap5 := hid (show q.length ≤ cap5 from by obtain ⟨_, _, _, hv, h1, _⟩ := RowN.of_own hown; injection hv with _ _ e3; omega)
      clear hown hbw e1 hn Hrow
      go_upto_region 8 with fail
      go_cut [41] from 39 to 42 (fun t wx => wx = wr ∧ ∃ bc, t = .bool bc ∧ (bc = true ↔ ((q.length : Int) ≥ 16)))
      case first =>
        go_wp2
        go_meet
        case rel => exact ⟨rfl, _, rfl, decide_eq_true_iff⟩
      case rest =>
      obtain ⟨rfl, bc, rfl, hbc⟩ := hcut
      go_step
      go_cut [6] from 42 to 44 (fun s wx => wx = wc ∧ ∃ A6 cap6 l2, (if q.length = 16 then q.drop 1 else q) = l2 ∧ s = .slice A6 l2.length cap6 ∧ RowAtS wc ws.heap.size 57 7 (.slice A6 l2.length cap6) l2.length (pRow l2))
      case first =>
        cases bc with
        | true =>
          have hq16 : q.length = 16 := by have := hbc.1 rfl; have := Hfl16.out; omega
          have Hq16 := hid hq16
          have hqI : (q.length : Int) = 16 := by omega
          have HR5 := hid (RowAtS.of_own Hown.out)
          rw [hq16] at Hcap5 HR5 ⊢
          have cut1 := cutP_from A5 16 cap5 1 1 15 rfl (by omega) Hcap5.out
          clear hq16 hbc hqI
          go_wp2_with fail
          go_meet
          case rel =>
            have hl2 : (q.drop 1).length = 15 := by rw [List.length_drop, Hq16.out]
            refine ⟨rfl, cutA A5 cap5 1 7, cap5 - 1, q.drop 1, if_pos Hq16.out, by rw [hl2], ?_⟩
            have := HR5.out.from_ (l := 1) (by omega)
            rw [Nat.one_mul, ← pRow_drop1] at this
            rw [hl2]
            exact this
        | false =>
          have hgt : ¬ q.length = 16 := fun h => Bool.noConfusion (hbc.2 (by omega))
          have Hgt := hid hgt
          clear hgt hbc
          go_wp2_with fail
          go_meet
          case rel => exact ⟨rfl, A5, cap5, q, if_neg Hgt.out, rfl, RowAtS.of_own Hown.out⟩
      case rest =>
      obtain ⟨rfl, A6, cap6, l2, hl2, rfl, hrow6⟩ := hcut
      have Hp2 := hid (show pLearn l x ⟨a0, a1, a2, a3, a4, a5⟩ = l2 ++ [(x, ⟨a0, a1, a2, a3, a4, a5⟩)] by rw [Hp.out, hl2])
      have Hl2 := hid (show l2.length ≤ 15 by rw [← hl2]; have := Hfl16.out; have := H.out.len; split <;> simp <;> omega)
      have Hrow6 := hid hrow6
      clear hl2 hrow6 hbc Hown Hcap5 Hp
      generalize wc = w5 at *
      have K5 := hid (K1.out.keep Hbw.out)
      have B5 := hid (B1.out.keep ((Hbw.out).mono (by omega)))
      have Hbw5 := hid (Hw1.out.trans (Hbw.out.mono Hw1.out.size))
      have m0 := B5.out.cell 0
      have m1 := B5.out.cell 1
      have m2 := B5.out.cell 2
      have m3 := B5.out.cell 3
      have m4 := B5.out.cell 4
      have m5 := B5.out.cell 5
      go_step
      go_wp2_with ((with_reducible show wpList _ _ _ (Oper.mk (some 50) _ _ _ _ _ :: _) _ _); refine wpList_app_atS rfl _ _ 45 rfl ws.heap.size 57 (.agg #[.int .u32 0, .int .u8 0, .int .u8 0, .int .u8 0, .int .u8 0, .int .u8 0, .int .u8 0]) 7 12 peerok _ l2.length (pRow l2) rfl (Hrow6.out.keep (below_alloc _ _)) _ 1 #[.int .u32 (x : Int), .int .u8 (a0.toNat : Int), .int .u8 (a1.toNat : Int), .int .u8 (a2.toNat : Int), .int .u8 (a3.toNat : Int), .int .u8 (a4.toNat : Int), .int .u8 (a5.toNat : Int)].toList rfl (rowS_lit 7 #[.int .u32 (x : Int), .int .u8 (a0.toNat : Int), .int .u8 (a1.toNat : Int), .int .u8 (a2.toNat : Int), .int .u8 (a3.toNat : Int), .int .u8 (a4.toNat : Int), .int .u8 (a5.toNat : Int)] 1 _ rfl rfl (by simp [maxLen])) (by simp [Value.oneCell']) (by decide) (by have := Hl2.out; omega) (by have := Hl2.out; simp only [maxLen]; omega) (by have := Hbw.out.size; simp; omega) ?_; intro v6 w6 hr6 hg6 hv6; obtain ⟨A9, c9, rfl⟩ := hr6.slice; have Hr6 := hid hr6; have Hg6 := hid hg6; have Hv6 := hid hv6; have hk6 := (K5.out.keep (below_alloc w5 (.cells #[.int .u32 (x : Int), .int .u8 (a0.toNat : Int), .int .u8 (a1.toNat : Int), .int .u8 (a2.toNat : Int), .int .u8 (a3.toNat : Int), .int .u8 (a4.toNat : Int), .int .u8 (a5.toNat : Int)] 57))).tab.grown hg6 (fun e => (Hrow6.out.keep (below_alloc w5 (.cells #[.int .u32 (x : Int), .int .u8 (a0.toNat : Int), .int .u8 (a1.toNat : Int), .int .u8 (a2.toNat : Int), .int .u8 (a3.toNat : Int), .int .u8 (a4.toNat : Int), .int .u8 (a5.toNat : Int)] 57))).ne ((K5.out.keep (below_alloc w5 (.cells #[.int .u32 (x : Int), .int .u8 (a0.toNat : Int), .int .u8 (a1.toNat : Int), .int .u8 (a2.toNat : Int), .int .u8 (a3.toNat : Int), .int .u8 (a4.toNat : Int), .int .u8 (a5.toNat : Int)] 57))).tab) (by decide) e.symm); have Hk6 := hid hk6; have z7 := hk6.frozen 7; have c77 := hk6.cell 7; clear hr6 hg6 hv6 hk6)
      go_end0
      unfold RLearnPost
      rw [Hp2.out]
      have hfl := fun k (hk : FX k) => (H.out.flt k hk).2
      have hsz5 := Hbw5.out.size
      have hsz := Hsz.out
      have hszw := Hbw.out.size
      have hb6 : Below w.heap.size w w6 := (Hbw5.out.alloc hsz5 _).grown Hg6.out (by simp; omega) (fun k hk => by have := (Hrow6.out.lt hk).1; omega)
      have hgs := grown_set w6 gX 7 (.slice A9 (l2.length + 1) c9)
      have hs6 := hb6.size
      refine ⟨⟨_, rfl⟩, fun k => k = gX ∨ (Value.slice A9 (l2.length + 1) c9).ownBlock = some k, ⟨.slice A9 (l2.length + 1) c9, Hk6.out.set_ 7 _, ?_, by have := Hl2.out; simp; omega, .inl rfl, fun k hk => .inr hk, fun k hk => ?_⟩, (Below.frameF hb6 FX).trans (frame_grown hgs (F := FX) (fun g hg => by injection hg with hg; subst hg; exact H.out.fg)) (fun _ _ q => q), fun k hk => ?_⟩
      · rw [List.length_append, pRow_append, pRow_one]
        have := Hr6.out.kept hgs (fun k hk e => by injection e with e; subst e; exact Hr6.out.ne Hk6.out (by decide) hk)
        exact this.mono (by have := Hb.out; omega)
      · rcases hk with rfl | hk
        · have := H.out.flt _ H.out.fg
          exact ⟨this.1, by simp; omega⟩
        · have := Hr6.out.lt hk
          have := Hb.out
          exact ⟨by omega, by simp; omega⟩
      · rcases hk with rfl | hk
        · exact .inl H.out.fg
        · have := (Hr6.out.lt hk).1
          exact .inr (by omega)
end Go.Proofs.Ytefpfjdfkecjkaa
