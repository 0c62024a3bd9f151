/- One of the document's that waits is turned. -/
import Derived.Test.YtbjiicnagfeciaaRPtC
namespace Go.Proofs.Ytbjiicnagfeciaa
section
open Go Go.RowKit
attribute [local go_sem ↓] Go.wp_at_zero Go.wp_at_succ
set_option maxRecDepth 100000

/-- all are n older -/
def olderW (n : Int) (x : Wt) : Wt := { x with age := x.age + n }
def olderR (n : Int) (x : RIt) : RIt := { x with w := olderW n x.w }
theorem pTick_old (l : List Wt) (n : Int) (h0 : 0 ≤ n) (hy : ∀ x ∈ l, 0 ≤ x.age ∧ x.age < 3000) : pTick l n = ((l.map (olderW n)).filter fun x => !decide (3000 ≤ x.age), (((l.map (olderW n)).filter fun x => decide (3000 ≤ x.age)).length : Int)) := by
  unfold pTick
  by_cases hn : n < 1
  · obtain rfl : n = 0 := by omega
    rw [if_pos (by omega)]
    have e0 : l.map (olderW 0) = l := by
      have : l.map (olderW 0) = l.map fun x => x := List.map_congr_left fun x _ => by unfold olderW; rw [Int.add_zero]
      rw [this, List.map_id']
    rw [e0]
    have e1 : l.filter (fun x => !decide (3000 ≤ x.age)) = l := List.filter_eq_self.2 fun x hx => by have := hy x hx; simp; omega
    have e2 : l.filter (fun x => decide (3000 ≤ x.age)) = [] := List.filter_eq_nil_iff.2 fun x hx => by have := hy x hx; simp; omega
    rw [e1, e2]
    rfl
  · rw [if_neg hn]
    congr 1
    · induction l with
      | nil => rfl
      | cons x l ih =>
        have hx := hy x (List.mem_cons_self ..)
        have ih := ih fun y hy' => hy y (List.mem_cons_of_mem _ hy')
        rw [List.filterMap_cons, List.map_cons, List.filter_cons, ih]
        by_cases e : x.age + n < 3000
        · have c : x.age + min n 3000 < 3000 := by omega
          have e1 : x.age + min n 3000 = x.age + n := by omega
          rw [if_pos c]
          have e2 : (!decide (3000 ≤ (olderW n x).age)) = true := by rw [Bool.not_eq_true', decide_eq_false_iff_not]; show ¬ 3000 ≤ x.age + n; omega
          rw [if_pos e2, e1]
          rfl
        · have c : ¬ x.age + min n 3000 < 3000 := by omega
          rw [if_neg c]
          have e2 : ¬ (!decide (3000 ≤ (olderW n x).age)) = true := by rw [Bool.not_eq_true', decide_eq_false_iff_not]; show ¬ ¬ 3000 ≤ x.age + n; omega
          rw [if_neg e2]
    · congr 1
      rw [List.filter_map, List.length_map]
      congr 1
      refine List.filter_congr fun x hx => ?_
      have := hy x hx
      simp only [Function.comp, olderW]
      exact decide_eq_decide.2 (by omega)
def RTickPost (base g : Nat) (clock : Int) (l : List Wt) (m : Nat) (F : Nat → Prop) (n : Int) (w : World) (e : Ending) (w' : World) : Prop :=
  e = .returned (.int .i64 (pTick l n).2) ∧ ∃ F', RPt w' base g (clock + max n 0) (pTick l n).1 m F' ∧ Frame F w w' ∧ ∀ k, F' k → F k ∨ w.heap.size ≤ k
theorem RPtAt.older {w w1 : World} {base g : Nat} {clock n : Int} {L : List RIt} {m : Nat} {vr : Value} {F : Nat → Prop} (h : RPtAt w base g clock L m vr F) (hb : Blk w1 g 66 [.int .i64 (clock + n), vr]) (hf : Frame (fun k => k = g) w w1) (hn : 0 ≤ n ∧ n ≤ 1099511627776) (hy : ∀ x ∈ L, x.w.age < 3000) : RPtAt w1 base g (clock + n) (L.map (olderR n)) m vr F where
  tab := hb
  row := by
    have e : (L.map (olderR n)).map RIt.ptr = L.map RIt.ptr := by rw [List.map_map]; rfl
    rw [e, List.length_map]
    refine h.row.same fun k hk => hf.block k (h.row.lt hk).2 (fun q => ?_)
    subst q
    exact h.row.ne h.tab (by decide) hk
  it x hx := by
    obtain ⟨y, hy2, rfl⟩ := List.mem_map.1 hx
    have hi := (h.it y hy2).other hf (rblk_types h.tab (by decide))
    refine ⟨?_, hi.one, hi.key, hi.row, hi.bod, hi.fst, hi.fg, hi.fp, hi.fb⟩
    have := hi.blk
    have e : clock + n - (olderR n y).w.age = clock - y.w.age := by show clock + n - (y.w.age + n) = _; omega
    rw [e]
    exact this
  apart := by
    rw [List.pairwise_map]
    exact h.apart
  ok := by
    have ho := h.ok
    refine ⟨fun x hx => ?_, ?_, ?_⟩
    · obtain ⟨z, hz, rfl⟩ := List.mem_map.1 hx
      obtain ⟨y, hy2, rfl⟩ := List.mem_map.1 hz
      have o := ho.it y.w (List.mem_map_of_mem hy2)
      have := hy y hy2
      have := o.age
      exact ⟨o.key, o.off, o.fin, o.le, by show 0 ≤ y.w.age + n ∧ y.w.age + n ≤ 4000000000000000000; omega⟩
    · have : ((L.map (olderR n)).map RIt.w).map (·.k) = (L.map RIt.w).map (·.k) := by rw [List.map_map, List.map_map, List.map_map]; rfl
      rw [this]; exact ho.keys
    · have := ho.len; simpa using this
  few x hx := by
    obtain ⟨y, hy2, rfl⟩ := List.mem_map.1 hx
    exact h.few y hy2
  fg := h.fg
  fr := h.fr
  flt k hk := ⟨(h.flt k hk).1, Nat.lt_of_lt_of_le (h.flt k hk).2 hf.size⟩
theorem rmv_mid {P R : List RIt} {x : RIt} (h : (P ++ x :: R).Pairwise fun x y => x.g ≠ y.g ∧ ∀ k, x.pv.ownBlock = some k → y.pv.ownBlock ≠ some k) : rmv (P ++ x :: R) x.g = P ++ R := by
  rw [List.pairwise_append] at h
  obtain ⟨_, h2, h3⟩ := h
  rw [List.pairwise_cons] at h2
  unfold rmv
  rw [List.filter_append, List.filter_cons, if_neg (by simp)]
  congr 1
  · rw [List.filter_eq_self]
    intro y hy
    simp only [Bool.not_eq_true', decide_eq_false_iff_not]
    exact (h3 y hy x (List.mem_cons_self ..)).1
  · rw [List.filter_eq_self]
    intro y hy
    simp only [Bool.not_eq_true', decide_eq_false_iff_not]
    exact fun e => (h2.1 y hy).1 e.symm

set_option maxHeartbeats 4000000 in
theorem rtick_any (base g : Nat) (clock : Int) (l : List Wt) (m : Nat) (F : Nat → Prop) (n : Int) (w : World) (h : RPt w base g clock l m F) (hy : ∀ x ∈ l, x.age < 3000) (hc : 0 ≤ clock ∧ clock ≤ 1000000000000000) (hn : -9223372036854775808 ≤ n ∧ n ≤ 1099511627776) :
    Calls Try.prog 27 #[.pointer (some ⟨g, 0, none⟩), .int .i64 n] w (RTickPost base g clock l m F n w) := by
  obtain ⟨L, vr, rfl, h⟩ := h
  obtain ⟨n', hn'⟩ : ∃ z, max n 0 = z := ⟨_, rfl⟩
  have hn0 : 0 ≤ n' ∧ n' ≤ 1099511627776 := by omega
  have Hn' := hid hn'
  have H := hid h
  have Hy := hid (show ∀ x ∈ L, x.w.age < 3000 from fun x hx => hy x.w (List.mem_map_of_mem hx))
  have hpt : pTick (L.map RIt.w) n = pTick (L.map RIt.w) n' := by
    by_cases e : n < 1
    · unfold pTick; rw [if_pos e, if_pos (by omega)]
    · rw [show n' = n by omega]
  have Hp := hid (hpt.trans (pTick_old (L.map RIt.w) n' hn0.1 (fun x hx => ⟨(h.ok.it x hx).age.1, hy x hx⟩)))
  obtain ⟨s, hs⟩ : ∃ s, L.length = s := ⟨_, rfl⟩
  have Hs := hid hs
  have hs4 : s ≤ 4 := by have := h.ok.len; simpa [hs] using this
  have hrow := h.row.rowN
  rw [hs] at hrow
  obtain ⟨_, B, capB, rfl, hcB1, hcB2, _⟩ := (show RowN w 1 vr s (L.map RIt.ptr) from hrow)
  have hcB : capB ≤ 9223372036854775807 := by simp only [maxLen] at hcB2; omega
  have c0 : w.cell? ⟨g, 0, none⟩ = some (.int .i64 clock) := h.tab.cell 0
  have z0 := h.tab.frozen 0
  have hwc : IntKind.i64.wrap (clock + n) = clock + n ∨ n ≤ 0 := by
    by_cases e : n ≤ 0
    · exact .inr e
    · exact .inl (IntWalk.i64_in _ (by omega))
  have Hwc := hid hwc
  clear h hy hn' hpt hs hrow hcB2 hwc
  go_enter Try.func27, Try.ntmps27
  go_upto_if 9 with fail
  go_cut [] from 9 to 18 (fun wx => Blk wx g 66 [.int .i64 (clock + n'), .slice B s capB] ∧ Frame (fun k => k = g) w wx)
  case first =>
    by_cases hp : n > 0
    · have hwn := Hwc.out.resolve_right (by omega)
      have hp2 : (0 : Int) < n := hp
      have Hnn := hid (show n' = n by have := Hn'.out; omega)
      go_wp2_with fail
      go_meet
      case rel =>
        rw [Hnn.out]
        exact ⟨H.out.tab.set_ 0 _, frame_one (grown_set w g 0 _)⟩
    · have hp2 : ¬ (0 : Int) < n := hp
      have Hnn := hid (show n' = 0 by have := Hn'.out; omega)
      clear hp
      go_wp2_with fail
      go_meet
      case rel =>
        rw [Hnn.out, Int.add_zero]
        exact ⟨H.out.tab, Frame.refl _ _⟩
  case rest =>
  obtain ⟨hb1, hf1⟩ := hcut
  have hK := H.out.older hb1 hf1 hn0 Hy.out
  obtain ⟨C, hC⟩ : ∃ z, clock + n' = z := ⟨_, rfl⟩
  obtain ⟨LL, hLL⟩ : ∃ z, L.map (olderR n') = z := ⟨_, rfl⟩
  have hCb : 0 ≤ C ∧ C ≤ 1000000000000000 + 1099511627776 := by omega
  have Hll := hid (show LL.length = s by rw [← hLL, List.length_map, Hs.out])
  have HLL := hid hLL
  rw [hC, hLL] at hK
  have Hf1 := hid hf1
  have K1 := hid hK
  have HC := hid hC
  have c1 : wc.cell? ⟨g, 1, none⟩ = some (.slice B s capB) := hb1.cell 1
  clear hb1 hf1 hK hC hLL c0 z0
  go_wp2_with fail
  go_loopg [5, 7] s (fun gk s5 s7 wr => ∃ (kk : Nat) (vr2 : Value) (F2 : Nat → Prop), kk ≤ s ∧ s - kk ≤ gk ∧ s7 = .int .i64 (kk : Int) ∧ (∃ c : Nat, s5 = .int .i64 (c : Int) ∧ c ≤ kk ∧ Hid (c = ((LL.take kk).filter fun x => decide (3000 ≤ x.w.age)).length)) ∧
    RPtAt wr base g C (((LL.take kk).filter fun x => !decide (3000 ≤ x.w.age)) ++ LL.drop kk) m vr2 F2 ∧ Frame (fun k => k = g) wc wr ∧ Hid (∀ k, F2 k → F k ∨ wc.heap.size ≤ k))
  case atStart => exact ⟨0, _, F, Nat.zero_le _, by omega, rfl, ⟨0, rfl, Nat.le_refl _, hid rfl⟩, K1.out, Frame.refl _ _, hid fun k hk => .inl hk⟩
  case round =>
    obtain ⟨kk, vr2, F2, hkk, hgk, rfl, ⟨c, rfl, hck, hcc⟩, hK, hfr, hF2⟩ := hrel
    by_cases hkl : kk < s
    · have hkI : (kk : Int) < (s : Int) := by omega
      have hkL : kk < LL.length := by rw [Hll.out]; exact hkl
      have hdrop : LL.drop kk = LL[kk] :: LL.drop (kk + 1) := List.drop_eq_getElem_cons hkL
      have htake := take_snoc LL kk hkL
      rw [hdrop] at hK
      have hrw1 : RowN wr 1 (.slice B s capB) s (LL.map RIt.ptr) := by
        have h0 := K1.out.row
        have h1 := (h0.same fun k hk => hfr.block k (h0.lt hk).2 (fun q => by subst q; exact h0.ne K1.out.tab (by decide) hk)).rowN
        rw [Hll.out] at h1
        exact h1
      obtain ⟨gB, oB, rfl, hcell⟩ := rptr_at hrw1 Hll.out kk hkl
      generalize LL[kk] = x at hK hdrop htake hcell
      obtain ⟨Pre, hPre⟩ : ∃ P, ((LL.take kk).filter fun x => !decide (3000 ≤ x.w.age)) = P := ⟨_, rfl⟩
      rw [hPre] at hK
      have hxm : x ∈ Pre ++ x :: LL.drop (kk + 1) := by simp
      have hxb := (hK.it x hxm).blk
      have hxa := (hK.ok.it x.w (List.mem_map_of_mem hxm)).age
      have hnx := rmv_mid hK.apart
      obtain ⟨gx, hgx⟩ : ∃ gx, x.g = gx := ⟨_, rfl⟩
      obtain ⟨ag, hag⟩ : ∃ ag, x.w.age = ag := ⟨_, rfl⟩
      rw [hgx] at hxb hcell hnx
      rw [hag] at hxb hxa
      have t0 : wr.cell? ⟨g, 0, none⟩ = some (.int .i64 C) := hK.tab.cell 0
      have x9 : wr.cell? ⟨gx, 9, none⟩ = some (.int .i64 (C - ag)) := hxb.cell 9
      have hag2 : ag ≤ 1099511630776 := by
        have hx2 : x ∈ LL := by rw [← List.take_append_drop kk LL, hdrop]; simp
        rw [← HLL.out] at hx2
        obtain ⟨y, hy, rfl⟩ := List.mem_map.1 hx2
        have := Hy.out y hy
        rw [← hag]
        show y.w.age + n' ≤ _
        omega
      have hw1 : IntKind.i64.wrap (C - (C - ag)) = ag := by rw [IntWalk.i64_in _ (by omega)]; omega
      have hw2 : C - (C - ag) = ag := by omega
      have hj1 : IntKind.i64.wrap ((kk : Int) + 1) = ((kk + 1 : Nat) : Int) := by rw [IntWalk.i64_in _ (by omega)]; omega
      have hc1 : IntKind.i64.wrap ((c : Int) + 1) = ((c + 1 : Nat) : Int) := by rw [IntWalk.i64_in _ (by omega)]; omega
      have HK := hid hK
      have HFr := hid hfr
      have HPre := hid hPre
      have Hxm := hid hxm
      have Hnx := hid hnx
      have Htk := hid htake
      have Hag := hid hag
      have HDrop := hid hgx
      clear hK hfr hPre hxm hnx htake hdrop hxb hrw1 hag hgx
      go_upto_region 8 with fail
      go_quiet (fail)
      by_cases hold : 3000 ≤ ag
      · have hold2 : ag ≥ 3000 := hold
        have Hho := hid hold
        have HD := hid (rdrop_at base g C _ m vr2 F2 gx ⟨x, Hxm.out, HDrop.out⟩ (wr.drewN nq) (HK.out.keep (below_drewN (Below.refl _ _) nq)))
        clear hold
        go_wp2_with (first | (go_at_call 45; refine HD.out.mono ?_; rintro e w6 ⟨⟨u, rfl⟩, vr3, F3, hk6, hfr6, hF6⟩; have Hk6 := hid hk6; have Hfr6 := hid hfr6; have HF6 := hid hF6; clear hk6 hfr6 hF6) | fail)
        go_roundg (s - (kk + 1))
        case measure => omega
        case rel =>
          refine ⟨kk + 1, vr3, F3, by omega, Nat.le_refl _, rfl, ⟨c + 1, rfl, by omega, hid ?_⟩, ?_, (HFr.out.trans (Below.frameF (below_drewN (Below.refl _ _) nq) _) (fun _ _ h => h)).trans Hfr6.out (fun _ _ h => h), hid fun k hk => ?_⟩
          · rw [Htk.out, List.filter_append, List.length_append, ← hcc.out]
            have : ([x].filter fun x => decide (3000 ≤ x.w.age)) = [x] := by rw [List.filter_cons, if_pos (by rw [Hag.out]; simpa using Hho.out)]; rfl
            rw [this]; rfl
          · have e1 : ((LL.take (kk + 1)).filter fun x => !decide (3000 ≤ x.w.age)) = Pre := by
              rw [Htk.out, List.filter_append, HPre.out]
              have : ([x].filter fun x => !decide (3000 ≤ x.w.age)) = [] := by rw [List.filter_cons, if_neg (by rw [Hag.out]; simpa using Hho.out)]; rfl
              rw [this, List.append_nil]
            rw [e1]
            have := Hk6.out
            rw [Hnx.out] at this
            exact this
          · rcases HF6.out k hk with q | q
            · exact hF2.out k q
            · exact .inr (Nat.le_trans HFr.out.size q)
      · have hold2 : ¬ ag ≥ 3000 := hold
        have Hho := hid hold
        clear hold
        go_wp2_with fail
        go_roundg (s - (kk + 1))
        case measure => omega
        case rel =>
          refine ⟨kk + 1, vr2, F2, by omega, Nat.le_refl _, rfl, ⟨c, rfl, by omega, hid ?_⟩, ?_, HFr.out.trans (Below.frameF (below_drewN (Below.refl _ _) nq) _) (fun _ _ h => h), hF2⟩
          · rw [Htk.out, List.filter_append, List.length_append, ← hcc.out]
            have : ([x].filter fun x => decide (3000 ≤ x.w.age)) = [] := by rw [List.filter_cons, if_neg (by rw [Hag.out]; simpa using Hho.out)]; rfl
            rw [this]; rfl
          · have e1 : ((LL.take (kk + 1)).filter fun x => !decide (3000 ≤ x.w.age)) = Pre ++ [x] := by
              rw [Htk.out, List.filter_append, HPre.out]
              have : ([x].filter fun x => !decide (3000 ≤ x.w.age)) = [x] := by rw [List.filter_cons, if_pos (by rw [Hag.out]; simpa using Hho.out)]; rfl
              rw [this]
            rw [e1, List.append_assoc]
            exact HK.out.keep (below_drewN (Below.refl _ _) nq)
    · obtain rfl : kk = s := by omega
      have hkI : ¬ (kk : Int) < (kk : Int) := by omega
      have hl1 : LL.take kk = LL := List.take_of_length_le (by rw [Hll.out]; exact Nat.le_refl _)
      have hl2 : LL.drop kk = [] := List.drop_of_length_le (by rw [Hll.out]; exact Nat.le_refl _)
      rw [hl1, hl2, List.append_nil] at hK
      have hC2 := hcc.out
      rw [hl1] at hC2
      have HK := hid hK
      have HFr := hid hfr
      have HC2 := hid hC2
      clear hK hfr hl1 hl2 hC2
      go_wp2_with fail
      go_ret
      have hmw : LL.map RIt.w = (L.map RIt.w).map (olderW n') := by rw [← HLL.out, List.map_map, List.map_map]; rfl
      have hf1 : ∀ p : Wt → Bool, (LL.filter fun x => p x.w).map RIt.w = (LL.map RIt.w).filter p := fun p => by rw [List.filter_map]; rfl
      unfold RTickPost
      rw [Hp.out, Hn'.out, HC.out]
      refine ⟨?_, F2, ⟨_, vr2, ?_, HK.out⟩, ?_, fun k hk => ?_⟩
      · refine ret_int ?_
        rw [← hmw, ← hf1 (fun x => decide (3000 ≤ x.age)), List.length_map, HC2.out]
      · rw [← hmw, ← hf1]
      · exact (Hf1.out.trans HFr.out (fun _ _ h => h)).weaken (fun i _ q => by subst q; exact H.out.fg)
      · rcases hF2.out k hk with q | q
        · exact .inl q
        · exact .inr (Nat.le_trans Hf1.out.size q)
end
section
open Go Go.RowKit
set_option maxRecDepth 100000

theorem RPtAt.one {w : World} {base g : Nat} {clock : Int} {L : List RIt} {m : Nat} {vr : Value} {F : Nat → Prop} (h : RPtAt w base g clock L m vr F) {x y : RIt} (hx : x ∈ L) (hy : y ∈ L) (e : y.w.k = x.w.k ∨ y.g = x.g) : y = x := by
  have ha := h.apart
  have hk := h.ok.keys
  rw [List.map_map] at hk
  clear h
  induction L with
  | nil => cases hx
  | cons z L ih =>
    rw [List.pairwise_cons] at ha
    rw [List.map_cons, List.nodup_cons] at hk
    rcases List.mem_cons.1 hx with rfl | hx2
    · rcases List.mem_cons.1 hy with rfl | hy2
      · rfl
      · rcases e with e | e
        · exact absurd (List.mem_map.2 ⟨y, hy2, e⟩) hk.1
        · exact absurd e.symm (ha.1 y hy2).1
    · rcases List.mem_cons.1 hy with rfl | hy2
      · rcases e with e | e
        · exact absurd (List.mem_map.2 ⟨x, hx2, e.symm⟩) hk.1
        · exact absurd e (ha.1 x hx2).1
      · exact ih hx2 hy2 ha.2 hk.2
theorem RPtAt.part {w : World} {base g : Nat} {clock : Int} {L : List RIt} {m : Nat} {vr : Value} {F : Nat → Prop} (h : RPtAt w base g clock L m vr F) {x y : RIt} (hx : x ∈ L) (hy : y ∈ L) (hne : y.g ≠ x.g) : ∀ k, x.pv.ownBlock = some k → y.pv.ownBlock ≠ some k := by
  have ha := h.apart
  clear h
  induction L with
  | nil => cases hx
  | cons z L ih =>
    rw [List.pairwise_cons] at ha
    rcases List.mem_cons.1 hx with rfl | hx2
    · rcases List.mem_cons.1 hy with rfl | hy2
      · exact absurd rfl hne
      · exact (ha.1 y hy2).2
    · rcases List.mem_cons.1 hy with rfl | hy2
      · exact fun k hk q => (ha.1 x hx2).2 k q hk
      · exact ih hx2 hy2 ha.2
/-- x' in the place of x -/
def swapR (L : List RIt) (x x' : RIt) : List RIt := L.map fun y => if y.g = x.g then x' else y
theorem RPtAt.swap_w {w : World} {base g : Nat} {clock : Int} {L : List RIt} {m : Nat} {vr : Value} {F : Nat → Prop} (h : RPtAt w base g clock L m vr F) {x x' : RIt} (hx : x ∈ L) (hk : x'.w.k = x.w.k) : (swapR L x x').map RIt.w = pSet (L.map RIt.w) x'.w := by
  unfold swapR pSet
  rw [List.map_map, List.map_map]
  refine List.map_congr_left fun y hy => ?_
  simp only [Function.comp]
  by_cases e : y.g = x.g
  · rw [if_pos e, if_pos (by rw [h.one hx hy (.inr e), hk])]
  · rw [if_neg e, if_neg (fun q => e (by rw [h.one hx hy (.inl (q.trans hk))]))]
theorem swapR_ptr {L : List RIt} {x x' : RIt} (hg : x'.g = x.g) : (swapR L x x').map RIt.ptr = L.map RIt.ptr := by
  unfold swapR
  rw [List.map_map]
  refine List.map_congr_left fun y _ => ?_
  simp only [Function.comp]
  by_cases e : y.g = x.g
  · rw [if_pos e]; unfold RIt.ptr; rw [hg, e]
  · rw [if_neg e]
theorem swapR_mem {L : List RIt} {x x' y : RIt} (h : y ∈ swapR L x x') : y = x' ∨ y ∈ L ∧ y.g ≠ x.g := by
  obtain ⟨z, hz, rfl⟩ := List.mem_map.1 h
  by_cases e : z.g = x.g
  · rw [if_pos e]; exact .inl rfl
  · rw [if_neg e]; exact .inr ⟨hz, e⟩
/-- the key tells which one is dropped -/
theorem RPtAt.rmv_w {w : World} {base g : Nat} {clock : Int} {L : List RIt} {m : Nat} {vr : Value} {F : Nat → Prop} (h : RPtAt w base g clock L m vr F) {x : RIt} (hx : x ∈ L) : (rmv L x.g).map RIt.w = pLose (L.map RIt.w) x.w.k := by
  unfold rmv pLose
  rw [List.filter_map]
  congr 1
  refine List.filter_congr fun y hy => ?_
  simp only [Function.comp]
  congr 1
  refine decide_eq_decide.2 ⟨fun e => by rw [h.one hx hy (.inr e)], fun e => by rw [h.one hx hy (.inl e)]⟩
theorem RPtAt.turn {w w' : World} {base g : Nat} {clock : Int} {L : List RIt} {m m' : Nat} {vr : Value} {F F' : Nat → Prop} (h : RPtAt w base g clock L m vr F) {x x' : RIt} (hx : x ∈ L) (hg : x'.g = x.g) (hk : x'.w.k = x.w.k) (hF : ∀ k, F k → F' k)
    (tab : Blk w' g 66 [.int .i64 clock, vr]) (row : RowAtS w' base 102 1 vr L.length (L.map RIt.ptr))
    (it : ∀ y ∈ L, y.g ≠ x.g → RItAt w' base clock y F') (itx : RItAt w' base clock x' F') (ap : ∀ y ∈ L, y.g ≠ x.g → ∀ k, x'.pv.ownBlock = some k → y.pv.ownBlock ≠ some k) (ok : x'.w.Ok) (few : x'.qs.length ≤ m') (hm : m ≤ m') (flt : ∀ k, F' k → base ≤ k ∧ k < w'.heap.size) :
    RPtAt w' base g clock (swapR L x x') m' vr F' where
  tab := tab
  row := by
    have hl : (swapR L x x').length = L.length := by simp [swapR]
    rw [swapR_ptr hg, hl]; exact row
  it y hy := by
    rcases swapR_mem hy with rfl | ⟨h1, h2⟩
    · exact itx
    · exact it y h1 h2
  apart := by
    have ha := h.apart
    unfold swapR
    rw [List.pairwise_map]
    refine List.Pairwise.imp_of_mem ?_ ha
    intro a b ha' hb' hab
    by_cases e1 : a.g = x.g
    · rw [if_pos e1]
      have e2 : b.g ≠ x.g := fun q => hab.1 (e1.trans q.symm)
      rw [if_neg e2]
      exact ⟨by rw [hg]; exact fun q => e2 q.symm, fun k hk => ap b hb' e2 k hk⟩
    · rw [if_neg e1]
      by_cases e2 : b.g = x.g
      · rw [if_pos e2]
        exact ⟨by rw [hg]; exact e1, fun k hk q => ap a ha' e1 k q hk⟩
      · rw [if_neg e2]
        exact hab
  ok := by
    rw [h.swap_w hx hk]
    have ho := h.ok
    refine ⟨fun y hy => ?_, ?_, ?_⟩
    · obtain ⟨z, hz, rfl⟩ := List.mem_map.1 hy
      by_cases e : z.k = x'.w.k
      · rw [if_pos e]; exact ok
      · rw [if_neg e]; exact ho.it z hz
    · have : (pSet (L.map RIt.w) x'.w).map (·.k) = (L.map RIt.w).map (·.k) := by
        unfold pSet
        rw [List.map_map]
        refine List.map_congr_left fun y _ => ?_
        simp only [Function.comp]
        by_cases e : y.k = x'.w.k
        · rw [if_pos e, e]
        · rw [if_neg e]
      rw [this]; exact ho.keys
    · unfold pSet; rw [List.length_map]; exact ho.len
  few y hy := by
    rcases swapR_mem hy with rfl | ⟨h1, h2⟩
    · exact few
    · exact Nat.le_trans (h.few y h1) hm
  fg := hF _ h.fg
  fr k hk := hF _ (h.fr k hk)
  flt := flt
/-- another one beside x, where x's own blocks are written -/
theorem RItAt.aside {w w' : World} {base : Nat} {clock : Int} {x y : RIt} {F : Nat → Prop} (hy : RItAt w base clock y F) (hx : RItAt w base clock x F) (hne : y.g ≠ x.g) (hap : ∀ k, x.pv.ownBlock = some k → y.pv.ownBlock ≠ some k) (hf : Frame (fun k => k = x.g ∨ x.pv.ownBlock = some k) w w') : RItAt w' base clock y F := by
  refine hy.frame hf (fun q => ?_) (fun k hk q => ?_) (fun q hq k hk r => ?_)
  · rcases q with q | q
    · exact hne q
    · exact hx.row.ne hy.blk (by decide) q
  · rcases q with q | q
    · subst q; exact hy.row.ne hx.blk (by decide) hk
    · exact hap k q hk
  · obtain ⟨cur, hb⟩ := own_blkS (hy.bod q hq) hk
    rcases r with r | r
    · subst r; exact Blk.ne hx.blk hb (by decide) rfl
    · exact hx.row.ne hb (by decide) r
theorem RItAt.not {w : World} {base : Nat} {clock : Int} {x : RIt} {F : Nat → Prop} (hx : RItAt w base clock x F) {g : Nat} {t : TypeId} {xs : List Value} (hb : Blk w g t xs) (ht : t ≠ 101 ∧ t ≠ 35) : ¬ (g = x.g ∨ x.pv.ownBlock = some g) := by
  rintro (q | q)
  · subst q; exact Blk.ne hb hx.blk ht.1 rfl
  · exact hx.row.ne hb ht.2 q
end
end Go.Proofs.Ytbjiicnagfeciaa
