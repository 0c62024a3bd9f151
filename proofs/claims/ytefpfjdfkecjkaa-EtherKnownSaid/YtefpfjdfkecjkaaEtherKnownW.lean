/- The walk of EtherKnown. -/
import Derived.Test.YtefpfjdfkecjkaaEthM
import Derived.Deep.Cut
import Derived.Deep.CutRange
namespace Go.Proofs.Ytefpfjdfkecjkaa
open Go Go.RowKit
attribute [local go_sem ↓] Go.wp_at_zero Go.wp_at_succ
set_option maxRecDepth 100000

def mK : Mac := ⟨1, 0, 0, 0, 0, 0⟩
def u32v (x : Nat) : Value := .int .u32 (x : Int)
/-- the law's own row of who is known -/
def rowStep (r : List Nat) (ip : Nat) : List Nat :=
  if (r.filter fun x => !decide (x = ip)).length + 1 > 16 then ((r.filter fun x => !decide (x = ip)) ++ [ip]).drop 1 else (r.filter fun x => !decide (x = ip)) ++ [ip]
theorem row_learn {l : List Peer} {r : List Nat} {ip : Nat} {mm : Mac} (h : l.map (·.1) = r) (h0 : ip ≠ 0) (hl : l.length ≤ 16) : (pLearn l ip mm).map (·.1) = rowStep r ip := by
  subst h
  have e : ((l.map (·.1)).filter fun x => !decide (x = ip)) = (l.filter fun p => !decide (p.1 = ip)).map (·.1) := by rw [List.filter_map]; rfl
  unfold pLearn rowStep
  rw [e, if_neg h0]
  have hl1 : (l.filter fun p => !decide (p.1 = ip)).length ≤ 16 := Nat.le_trans (List.length_filter_le _ _) hl
  generalize (l.filter fun p => !decide (p.1 = ip)) = q at *
  by_cases hq : q.length = 16
  · rw [if_pos hq, if_pos (by simp; omega)]
    cases q with
    | nil => cases hq
    | cons p q => simp
  · rw [if_neg hq, if_neg (by simp; omega)]
    simp
theorem find_learn {l : List Peer} {ip : Nat} {mm : Mac} (h0 : ip ≠ 0) : pFind (pLearn l ip mm) ip = some mm := by
  unfold pLearn
  rw [if_neg h0]
  have hn : ∀ p ∈ (if (l.filter fun p => !decide (p.1 = ip)).length = 16 then (l.filter fun p => !decide (p.1 = ip)).drop 1 else l.filter fun p => !decide (p.1 = ip)), p.1 ≠ ip := by
    intro p hp
    have : p ∈ l.filter fun p => !decide (p.1 = ip) := by
      split at hp
      · exact List.mem_of_mem_drop hp
      · exact hp
    have := (List.mem_filter.1 this).2
    simpa using this
  generalize (if (l.filter fun p => !decide (p.1 = ip)).length = 16 then (l.filter fun p => !decide (p.1 = ip)).drop 1 else l.filter fun p => !decide (p.1 = ip)) = q at *
  unfold pFind
  rw [List.find?_append, List.find?_eq_none.2 (fun p hp => by simpa using hn p hp)]
  simp
theorem find_zero {w : World} {base g : Nat} {mac : Mac} {ip : Nat} {l : List Peer} {m : Nat} {F : Nat → Prop} (h : PeersInv w base g mac ip l m F) : pFind l 0 = none := by
  obtain ⟨vr, gM, f, h⟩ := h
  unfold pFind
  rw [List.find?_eq_none.2 (fun p hp => by simpa using (h.oks p hp).2)]
  rfl
structure KnSt (w0 wr : World) (gP m : Nat) (l : List Peer) (r : List Nat) (v4 : Value) (F : Nat → Prop) : Prop where
  inv : PeersInv wr w0.heap.size gP mK 5 l m F
  row : RowAtS wr w0.heap.size 40 1 v4 r.length (r.map u32v)
  far : ∀ k, v4.ownBlock = some k → ¬ F k
  fst : l.map (·.1) = r
  bel : Below w0.heap.size w0 wr
theorem KnSt.keep {w0 wr w' : World} {gP m : Nat} {l : List Peer} {r : List Nat} {v4 : Value} {F : Nat → Prop} (h : KnSt w0 wr gP m l r v4 F) (hb : Below wr.heap.size wr w') : KnSt w0 w' gP m l r v4 F :=
  ⟨h.inv.keep hb, h.row.keep hb, h.far, h.fst, h.bel.trans (hb.mono h.bel.size)⟩

set_option maxHeartbeats 4000000 in
theorem etherKnown_walk (vq : Value) (xs : List Int) (w : World) (hq : RowN w 1 vq xs.length (xs.map fun x => Value.int .u32 x)) (hx : ∀ x ∈ xs, Lit.wf (.int .u32 x) = true) :
    Calls Try.prog 6 #[vq] w fun e w' => e = .returned (.bool true) ∧ Below w.heap.size w w' := by
  obtain ⟨Aq, capq, rfl, kq0, kq1, kq2, kq3⟩ := hq.cells
  have HQ := hid hq
  have HX := hid hx
  obtain ⟨xn, hxn⟩ : ∃ n, xs.length = n := ⟨_, rfl⟩
  have Hxn := hid hxn
  rw [hxn] at HQ
  rw [hxn]
  clear hq hx kq0 kq1 kq2 kq3 hxn
  have N1 := fun wx => new_any mK 5 wx
  go_enter Try.func6, Try.ntmps6
  go_upto_region 8 with (first
    | (go_at_call 7; refine (known_any _).mono ?_; rintro e w1 ⟨rfl, hb⟩; have Hb1 := hid hb; clear hb)
    | (go_at_call 14; refine (N1 _).mono ?_; rintro e w2 ⟨gP, F, rfl, hA, hb⟩; have S2 := hid (show KnSt w w2 gP 0 [] [] (.slice none 0 0) F from ⟨hA.mono Hb1.out.size (Nat.le_refl _), RowAtS.nil _ _ _ _, (fun k hk => by simp [Value.ownBlock] at hk), rfl, Hb1.out.trans (hb.mono Hb1.out.size)⟩); clear hA hb))
  clear Hb1 N1
  go_loopw [4, 5] (fun s4 i wr => ∃ (k m : Nat) (l : List Peer) (r : List Nat) (F : Nat → Prop), k ≤ 100 ∧ i = .int .i64 (k : Int) ∧ m ≤ k ∧ KnSt w wr gP m l r s4 F) (fun _ i _ => 100 - (intOf i).toNat)
  case atStart => exact ⟨0, 0, [], [], F, by omega, rfl, by omega, S2.out⟩
  case round =>
    obtain ⟨k, m, l, r, F, hk100, rfl, hm, hS⟩ := hrel
    clear S2
    obtain ⟨A4, cap4, rfl⟩ := hS.row.slice
    have HS := hid hS
    have Hm := hid hm
    obtain ⟨rn, hrn⟩ : ∃ n, r.length = n := ⟨_, rfl⟩
    have Hrn := hid hrn
    have hr16 : rn ≤ 16 := by rw [← hrn, ← hS.fst, List.length_map]; exact hS.inv.len
    rw [hrn] at HS ⊢
    by_cases hkl : k < xn ∧ k < 100
    · obtain ⟨hkl1, hkl2⟩ := hkl
      have t1 : (k : Int) < (xn : Int) := by omega
      have t2 : (k : Int) < 100 := by omega
      obtain ⟨_, A', cap', hv', _, _, hA⟩ := HQ.out.below hS.bel
      injection hv' with e1 _ e2
      subst e1; subst e2
      obtain ⟨gb, off, rfl, hcell⟩ : ∃ gb off, Aq = some ⟨gb, off, none⟩ ∧ ∀ i x, (xs.map fun x => Value.int .u32 x)[i]? = some x → wr.cell? ⟨gb, off + i, none⟩ = some x := by
        rcases hA with h0 | h0
        · omega
        · exact h0
      have hkx : k < xs.length := by rw [Hxn.out]; exact hkl1
      have hc := hcell k (.int .u32 xs[k]) (by rw [List.getElem?_map, List.getElem?_eq_getElem hkx]; rfl)
      have hwf := HX.out xs[k] (List.getElem_mem hkx)
      generalize xs[k] = x at hc hwf
      obtain ⟨x, rfl⟩ : ∃ n : Nat, x = n := ⟨x.toNat, by simp [Lit.wf, IntKind.min, IntKind.max, IntKind.bits, IntKind.signed] at hwf; omega⟩
      obtain ⟨ip, hip⟩ : ∃ ip, x % 40 = ip := ⟨_, rfl⟩
      have hip40 : ip < 40 := by omega
      have hu : (x : Int) % 40 = (ip : Int) := by omega
      obtain ⟨bi, hbi⟩ : ∃ b : UInt8, b = UInt8.ofNat ip := ⟨_, rfl⟩
      obtain ⟨bk, hbk⟩ : ∃ b : UInt8, b = UInt8.ofNat k := ⟨_, rfl⟩
      have hui : IntKind.u8.wrap (ip : Int) = (bi.toNat : Int) := by rw [hbi, IntKind.wrap_u8]; simp
      have huk : IntKind.u8.wrap (k : Int) = (bk.toNat : Int) := by rw [hbk, IntKind.wrap_u8]; simp
      clear hbi hbk hip hkx hA hcell hwf hS hm hrn hkl1 hkl2
      have HL : ∀ wy, PeersInv wy w.heap.size gP mK 5 l m F → Calls Try.prog 15 #[.pointer (some ⟨gP, 0, none⟩), .int .u32 (ip : Int), .agg #[.int .u8 (bi.toNat : Int), .int .u8 (bk.toNat : Int), .int .u8 0, .int .u8 0, .int .u8 0, .int .u8 0]] wy fun e w' => (∃ u, e = .returned u) ∧ ∃ F', PeersInv w' w.heap.size gP mK 5 (pLearn l ip ⟨bi, bk, 0, 0, 0, 0⟩) (m + 1) F' ∧ Frame F wy w' ∧ ∀ k, F' k → F k ∨ wy.heap.size ≤ k := fun wy h => learn_any w.heap.size gP mK 5 l m F ip (by omega) ⟨bi, bk, 0, 0, 0, 0⟩ wy h (by have := Hm.out; omega)
      have HL := hid HL
      have hk1 : IntKind.i64.wrap ((k : Int) + 1) = ((k + 1 : Nat) : Int) := by rw [IntWalk.i64_in _ (by omega)]; omega
      go_upto_region 12 with (go_at_call 15; refine (HL.out _ HS.out.inv).mono ?_; rintro e w3 ⟨⟨u, rfl⟩, F', hi, hf, hn⟩; have hbel := HS.out.bel.trans (hf.below (fun k hk => (HS.out.inv.lt k hk).1) HS.out.bel.size); have Hbel := hid hbel; have HI := hid hi; have hrow := HS.out.row.same (fun g hg => hf.block g (HS.out.row.lt hg).2 (HS.out.far g hg)); have Hrow := hid hrow; have Hfar := hid (show ∀ k, (Value.slice A4 rn cap4).ownBlock = some k → ¬ F' k from fun k hk q => by rcases hn k q with q | q; exact HS.out.far k hk q; (have := (HS.out.row.lt hk).2; omega)); clear hi hf hn hbel hrow)

      have Hui := hid hui
      have Huk := hid huk
      clear hu hui huk
      by_cases h0 : ip = 0
      · subst h0
        go_wp2_with fail
        go_roundw
        case rel => exact ⟨k + 1, m + 1, _, r, F', by omega, rfl, by have := Hm.out; omega, ⟨HI.out, Hrow.out, Hfar.out, by have := HS.out.fst; unfold pLearn; rw [if_pos rfl]; exact this, Hbel.out⟩⟩
        case measure => simp [intOf]; omega
      have hb0 : ((ip : Int) == 0) = false := by simp; omega
      go_upto_region 15 with fail
      have Hrl := hid Hrow.out.rowN
      rw [Hrn.out] at Hrl
      have hsz3 := hid (show w.heap.size ≤ w3.heap.size from Hbel.out.size)
      go_loopw [7, 8] (fun s7 s8 wr => ∃ (j : Nat), j ≤ rn ∧ s8 = .int .i64 (j : Int) ∧ wr.ownsRow w3.heap.size 40 1 s7 ((r.take j).filter fun x => !decide (x = ip)).length (((r.take j).filter fun x => !decide (x = ip)).map u32v) ∧ Below w3.heap.size w3 wr) (fun _ i _ => rn - (intOf i).toNat)
      case atStart => exact ⟨0, by omega, rfl, World.ownsRow_nil _ _ _ _, Below.refl _ _⟩
      case round =>
        obtain ⟨j, hj, rfl, hown, hbw⟩ := hrel
        by_cases hlt : j < rn
        · have t3 : (j : Int) < (rn : Int) := by omega
          obtain ⟨_, A', cap', hv', _, _, hA⟩ := Hrl.out.below hbw
          injection hv' with e1 _ e2
          subst e1; subst e2
          obtain ⟨gr, ofr, rfl, hcell⟩ := hA.resolve_left (by omega)
          have hjr : j < r.length := by rw [Hrn.out]; exact hlt
          have hc2 := hcell j (.int .u32 (r[j] : Int)) (by rw [List.getElem?_map, List.getElem?_eq_getElem hjr]; rfl)
          have hj1 : IntKind.i64.wrap ((j : Int) + 1) = ((j + 1 : Nat) : Int) := by rw [IntWalk.i64_in _ (by omega)]; omega
          have htk : r.take (j + 1) = r.take j ++ [r[j]] := take_snoc r j hjr
          generalize r[j] = y at *
          have Htk := hid htk
          have Hown := hid hown
          have Hbw := hid hbw
          have Hql := hid (show ((r.take j).filter fun x => !decide (x = ip)).length ≤ 16 from Nat.le_trans (List.length_filter_le _ _) (by simp; omega))
          clear hA hcell htk hown hbw
          by_cases hy : y = ip
          · have hyb : ((y : Int) != (ip : Int)) = false := by simp; omega
            have He := hid (show (r.take (j + 1)).filter (fun x => !decide (x = ip)) = (r.take j).filter fun x => !decide (x = ip) by rw [Htk.out, List.filter_append]; simp [hy])
            clear hy
            go_wp2_with fail
            go_roundw
            case rel => exact ⟨j + 1, by omega, rfl, by rw [He.out]; exact Hown.out, Hbw.out⟩
            case measure => simp [intOf]; omega
          · have hyb : ((y : Int) != (ip : Int)) = true := by simp; omega
            have He := hid (show (r.take (j + 1)).filter (fun x => !decide (x = ip)) = ((r.take j).filter fun x => !decide (x = ip)) ++ [y] by rw [Htk.out, List.filter_append]; simp [hy])
            clear hy
            generalize ((r.take j).filter fun x => !decide (x = ip)) = q at *
            go_wp2_with ((with_reducible show wpList _ _ _ (Oper.mk (some 64) _ _ _ _ _ :: _) _ _); refine wpList_app _ rfl _ _ 52 rfl w3.heap.size 40 (.int .u32 0) 1 4 u32ok _ q.length (q.map u32v) rfl (Hown.out.alloc _) _ 1 [.int .u32 (y : Int)] rfl (rowS_lit 1 #[.int .u32 (y : Int)] 1 _ rfl rfl (by simp [maxLen])) (by simp [Value.oneCell']) (by have := Hql.out; omega) (by have := Hql.out; simp only [maxLen]; omega) (by have := Hbw.out.size; simp; omega) ?_; intro v1 w1 hown1 hg1 hat1; clear hat1; have Hown1 := hid hown1; have Hb1 := hid ((Hbw.out.alloc Hbw.out.size _).trans (grown_below (Hown.out.alloc _) (by have := Hbw.out.size; simp; omega) hg1)); clear hown1 hg1)
            go_roundw
            case rel => exact ⟨j + 1, by omega, rfl, by rw [He.out, List.length_append, List.map_append]; exact Hown1.out, Hb1.out⟩
            case measure => simp [intOf]; omega
        · obtain rfl : j = rn := by omega
          have t3 : ¬ (j : Int) < (j : Int) := by omega
          have e1 : r.take j = r := List.take_of_length_le (by rw [Hrn.out]; exact Nat.le_refl _)
          rw [e1] at hown
          have hfl : (r.filter fun x => !decide (x = ip)).length ≤ 16 := Nat.le_trans (List.length_filter_le _ _) (by rw [Hrn.out]; exact hr16)
          have hstep : rowStep r ip = if (r.filter fun x => !decide (x = ip)).length + 1 > 16 then ((r.filter fun x => !decide (x = ip)) ++ [ip]).drop 1 else (r.filter fun x => !decide (x = ip)) ++ [ip] := rfl
          have hfst := row_learn (mm := ⟨bi, bk, 0, 0, 0, 0⟩) HS.out.fst h0 HS.out.inv.len
          have HFI := hid (find_learn (l := l) (mm := ⟨bi, bk, 0, 0, 0, 0⟩) h0)
          generalize (r.filter fun x => !decide (x = ip)) = q at *
          generalize rowStep r ip = r2 at *
          generalize pLearn l ip ⟨bi, bk, 0, 0, 0, 0⟩ = l2 at *
          have Hown := hid hown
          have Hbw := hid hbw
          have Hfl := hid hfl
          have Hst := hid hstep
          have Hfst := hid hfst
          have Hj := hid hj
          clear hown hbw hfl hstep e1 hfst HS HL Hrow Hfar Hrl Hrn h0 hb0
          go_upto_region 20 with ((with_reducible show wpList _ _ _ (Oper.mk (some 68) _ _ _ _ _ :: _) _ _); refine wpList_app _ rfl _ _ 52 rfl w3.heap.size 40 (.int .u32 0) 1 4 u32ok _ q.length (q.map u32v) rfl (Hown.out.alloc _) _ 1 [.int .u32 (ip : Int)] rfl (rowS_lit 1 #[.int .u32 (ip : Int)] 1 _ rfl rfl (by simp [maxLen])) (by simp [Value.oneCell']) (by have := Hfl.out; omega) (by have := Hfl.out; simp only [maxLen]; omega) (by have := Hbw.out.size; simp; omega) ?_; intro v1 w1 hown1 hg1 hat1; clear hat1; have Hown1 := hid hown1; have Hb1 := hid ((Hbw.out.alloc Hbw.out.size _).trans (grown_below (Hown.out.alloc _) (by have := Hbw.out.size; simp; omega) hg1)); clear hown1 hg1)
          have Hrow4 := hid (show RowAtS w1 w3.heap.size 40 1 v1 (q.length + 1) ((q ++ [ip]).map u32v) by rw [List.map_append]; exact RowAtS.of_own Hown1.out)
          obtain ⟨A5, cap5, rfl⟩ := Hrow4.out.slice
          have hI4 := HI.out.keep Hb1.out
          have hbel4 := Hbel.out.trans (Hb1.out.mono Hbel.out.size)
          have hFl : ∀ k, F' k → k < w3.heap.size := fun k hk => (HI.out.lt k hk).2
          have HI4 := hid hI4
          have Hbel4 := hid hbel4
          have HFl := hid hFl
          have Hcap5 := hid (show q.length + 1 ≤ cap5 from by obtain ⟨_, _, _, hv, h1, _⟩ := Hrow4.out.rowN; injection hv with _ _ e3; omega)
          clear hI4 hbel4 hFl HI Hbel Hown1 Hb1 Hown Hbw
          go_cut [71] from 69 to 72 (fun t wx => wx = w1 ∧ ∃ bc, t = .bool bc ∧ (bc = true ↔ (((q.length + 1 : Nat) : Int) > 16)))
          case first =>
            go_wp2
            go_meet
            case rel => exact ⟨rfl, _, rfl, decide_eq_true_iff⟩
          case rest =>
          obtain ⟨rfl, bc, rfl, hbc⟩ := hcut
          go_step
          go_cut [4] from 72 to 74 (fun s wx => wx = wc ∧ ∃ A6 cap6, s = .slice A6 r2.length cap6 ∧ RowAtS wc w3.heap.size 40 1 (.slice A6 r2.length cap6) r2.length (r2.map u32v))
          case first =>
            cases bc with
            | true =>
              have hgt : q.length + 1 > 16 := by have := hbc.1 rfl; omega
              have Hr2 := hid (show r2 = (q ++ [ip]).drop 1 by rw [Hst.out, if_pos hgt])
              have hl2 : r2.length = q.length := by rw [Hr2.out]; simp
              have Hl2 := hid hl2
              have cut1 := cutU_from A5 (q.length + 1) cap5 1 1 q.length rfl (by omega) Hcap5.out
              clear hgt hl2 hbc
              go_wp2_with fail
              go_meet
              case rel =>
                refine ⟨rfl, cutA A5 cap5 1 1, cap5 - 1, by rw [Hl2.out], ?_⟩
                have := Hrow4.out.from_ (l := 1) (by omega)
                rw [Nat.mul_one, ← List.map_drop, ← Hr2.out] at this
                rw [Hl2.out]
                exact this
            | false =>
              have hgt : ¬ q.length + 1 > 16 := fun h => Bool.noConfusion (hbc.2 (by omega))
              have Hr2 := hid (show r2 = q ++ [ip] by rw [Hst.out, if_neg hgt])
              have Hl2 := hid (show r2.length = q.length + 1 by rw [Hr2.out]; simp)
              clear hgt hbc
              go_wp2_with fail
              go_meet
              case rel =>
                refine ⟨rfl, A5, cap5, by rw [Hl2.out], ?_⟩
                rw [Hl2.out, Hr2.out]
                exact Hrow4.out
          case rest =>
          obtain ⟨rfl, A6, cap6, rfl, hrow6⟩ := hcut
          have S6 := hid (show KnSt w wc gP (m + 1) l2 r2 (.slice A6 r2.length cap6) F' from ⟨HI4.out, hrow6.mono hsz3.out, fun k hk q => by have := (hrow6.lt hk).1; have := HFl.out k q; omega, Hfst.out, Hbel4.out⟩)
          clear hbc hrow6 Hrow4 Hst HI4 Hbel4 HFl Hcap5 Hfst Hfl
          generalize wc = w6 at *
          have HF6 : Calls Try.prog 22 #[.pointer (some ⟨gP, 0, none⟩), .int .u32 (ip : Int)] w6 fun e w' => e = .returned (.tuple #[.agg #[.int .u8 (bi.toNat : Int), .int .u8 (bk.toNat : Int), .int .u8 0, .int .u8 0, .int .u8 0, .int .u8 0], .bool true]) ∧ Below w6.heap.size w6 w' := find_at w.heap.size gP mK 5 l2 (m + 1) F' ip ⟨bi, bk, 0, 0, 0, 0⟩ (by omega) w6 S6.out.inv HFI.out
          have HF6 := hid HF6
          have e1 : ∀ wx, (Op.equalIn 10000 23 (.agg #[.int .u8 (bi.toNat : Int), .int .u8 (bk.toNat : Int), .int .u8 0, .int .u8 0, .int .u8 0, .int .u8 0]) (.agg #[.int .u8 (bi.toNat : Int), .int .u8 (bk.toNat : Int), .int .u8 0, .int .u8 0, .int .u8 0, .int .u8 0])).run Try.prog wx = .ok true wx := fun wx => run_mac_same ⟨bi, bk, 0, 0, 0, 0⟩ wx
          have E1 := hid e1
          clear e1 HFI
          go_step
          go_upto_region 23 with (first
            | (go_at_call 22; refine HF6.out.mono ?_; rintro e w7 ⟨rfl, hb⟩; have S7 := hid (S6.out.keep hb); clear hb)
            | ((with_reducible show wpList _ _ _ (Oper.mk none _ _ _ _ _ :: _) _ _); refine wpList_storeBlk rfl _ _ _ rfl _ _ rfl rfl _ _ (Blk.new _ _ _) macinfo rfl rfl ?_; intro w8 hblk hg hsz; have S8 := hid (S7.out.keep (below_new_store hg)); have B8 := hid hblk; clear hblk hg hsz))
          have hui : IntKind.u8.wrap (ip : Int) = (bi.toNat : Int) := Hui.out
          have huk : IntKind.u8.wrap (k : Int) = (bk.toNat : Int) := Huk.out
          have e1 := E1.out
          have d0 := B8.out.cell 0
          have d1 := B8.out.cell 1
          have d2 := B8.out.cell 2
          have d3 := B8.out.cell 3
          have d4 := B8.out.cell 4
          have d5 := B8.out.cell 5
          go_wp2_with fail
          go_roundw
          case rel => exact ⟨k + 1, m + 1, l2, r2, F', by omega, rfl, by have := Hm.out; omega, S8.out⟩
          case measure => simp [intOf]; omega
    · have t1 : (k : Int) < (xn : Int) ∧ ¬ (k : Int) < 100 ∨ ¬ (k : Int) < (xn : Int) := by omega
      have hlr : l.length = rn := by rw [← hrn, ← hS.fst, List.length_map]
      have hmap : l.map ipV = r.map u32v := by rw [← hS.fst, List.map_map]; rfl
      have HK := known_list w.heap.size gP mK 5 l m F wr hS.inv
      rw [hlr, hmap] at HK
      have HK := hid HK
      have Hz := hid (find_zero hS.inv)
      clear hlr hmap hS hm hrn
      rcases t1 with ⟨t1, t2⟩ | t1
      all_goals
        go_upto_region 29 with (go_at_call 21; refine HK.out.mono ?_; rintro e w3 ⟨v3, rfl, hown, hb⟩; obtain ⟨_, A3, cap3, rfl, _, _, _⟩ := RowN.of_own hown; have Hr3 := hid (RowN.of_own hown); have S3 := hid (HS.out.keep hb); clear hown hb)
        clear HK HS
        go_loopw [12] (fun i wx => ∃ (j q : Nat), j ≤ rn ∧ i = .int .i64 (j : Int) ∧ wx = w3.drewN q) (fun i _ => rn - (intOf i).toNat)
        case atStart => exact ⟨0, 0, by omega, rfl, rfl⟩
        case round =>
          obtain ⟨j, q, hj, rfl, rfl⟩ := hrel
          by_cases hlt : j < rn
          · have t3 : (j : Int) < (rn : Int) := by omega
            obtain ⟨_, A', cap', hv', _, _, hA⟩ := Hr3.out
            injection hv' with e1 _ e2
            subst e1; subst e2
            obtain ⟨_, A'', cap'', hv', _, _, hA2⟩ := S3.out.row.rowN
            injection hv' with e1 e9 e2
            clear e9
            subst e1; subst e2
            obtain ⟨g1, o1, rfl, hc1⟩ := hA.resolve_left (by omega)
            obtain ⟨g2, o2, rfl, hc2⟩ := hA2.resolve_left (by rw [Hrn.out]; omega)
            have hjr : j < r.length := by rw [Hrn.out]; exact hlt
            have x1 : (w3.drewN q).cell? ⟨g1, o1 + j, none⟩ = some (.int .u32 (r[j] : Int)) := hc1 j _ (by rw [List.getElem?_map, List.getElem?_eq_getElem hjr]; rfl)
            have x2 : (w3.drewN q).cell? ⟨g2, o2 + j, none⟩ = some (.int .u32 (r[j] : Int)) := hc2 j _ (by rw [List.getElem?_map, List.getElem?_eq_getElem hjr]; rfl)
            have hj1 : IntKind.i64.wrap ((j : Int) + 1) = ((j + 1 : Nat) : Int) := by rw [IntWalk.i64_in _ (by omega)]; omega
            generalize r[j] = y at x1 x2
            have hyb : ((y : Int) != (y : Int)) = false := by simp
            obtain ⟨wy, hwy⟩ : ∃ wy, wy = w3.drewN q := ⟨_, rfl⟩
            rw [← hwy] at x1 x2 ⊢
            have Hwy := hid hwy
            clear hA hA2 hc1 hc2 hjr hwy
            go_wp2_with fail
            go_quiet (fail)
            go_wp2_with fail
            go_roundw
            case rel => exact ⟨j + 1, q + nq, by omega, rfl, by rw [Hwy.out]; simp [World.drewN, Nat.add_assoc]⟩
            case measure => simp [intOf]; omega
          · obtain rfl : j = rn := by omega
            have t3 : ¬ (j : Int) < (j : Int) := by omega
            have HF := find_any w.heap.size gP mK 5 l m F 0 (by decide) (w3.drewN q) (S3.out.inv.keep (below_drewN (Below.refl _ _) q))
            unfold FindPost at HF
            rw [Hz.out] at HF
            have HF : Calls Try.prog 22 #[.pointer (some ⟨gP, 0, none⟩), .int .u32 0] (w3.drewN q) fun e w' => e = .returned (.tuple #[.agg #[.int .u8 0, .int .u8 0, .int .u8 0, .int .u8 0, .int .u8 0, .int .u8 0], .bool false]) ∧ Below (w3.drewN q).heap.size (w3.drewN q) w' := HF
            have HF := hid HF
            have HbK := hid (S3.out.bel.trans ((below_drewN (Below.refl w3.heap.size w3) q).mono S3.out.bel.size))
            generalize w3.drewN q = wy at *
            go_wp2_with (first
              | (go_at_call 22; refine HF.out.mono ?_; rintro e w7 ⟨rfl, hb⟩; have Hb7 := hid (HbK.out.trans (hb.mono HbK.out.size)); clear hb)
              | ((with_reducible show wpList _ _ _ (Oper.mk none _ _ _ _ _ :: _) _ _); refine wpList_storeBlk rfl _ _ _ rfl _ _ rfl rfl _ _ (Blk.new _ _ _) macinfo rfl rfl ?_; intro w8 hblk hg hsz; have Hb8 := hid (Hb7.out.trans ((below_new_store hg).mono Hb7.out.size)); clear hblk hg hsz))
            go_ret
            exact ⟨rfl, Hb8.out⟩
end Go.Proofs.Ytefpfjdfkecjkaa
