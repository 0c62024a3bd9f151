/- Contracts of Add and Tick. -/
import Derived.Test.YtbjiicnagfeciaaPtI
namespace Go.Proofs.Ytbjiicnagfeciaa
open Go Go.RowKit
attribute [local go_sem ↓] Go.wp_at_zero Go.wp_at_succ
set_option maxRecDepth 100000

theorem add_any (base g : Nat) (l : List Wt) (m : Nat) (F : Nat → Prop) (v : Value) (p : Pk) (w : World) (h : PtInv w base g l m F) (hm : m < 90000) (hb : Bs w v p.body) (hl : p.body.length ≤ 1099511627776) (hkey : p.key.Ok) :
    Calls Try.prog 21 #[.pointer (some ⟨g, 0, none⟩), .agg (pkCells p v).toArray] w (AddPost base g l m F p w) := by
  by_cases hw : p.off = 0 ∧ p.more = false
  · exact add_whole base g l m F v p w h hb hl hw
  cases hwr : pWrong p with
  | true => exact add_wrong base g l m F v p w h hb hl hw hwr
  | false => exact add_main base g l m F v p w h hm hb hkey hw hwr

theorem swap_mid {P R : List WIt} {x x' : WIt} (h : (P ++ x :: R).Pairwise fun x y => x.g ≠ y.g ∧ ∀ k, x.pv.ownBlock = some k → y.pv.ownBlock ≠ some k) : swapAt (P ++ x :: R) x x' = P ++ x' :: R := by
  rw [List.pairwise_append] at h
  obtain ⟨h1, h2, h3⟩ := h
  rw [List.pairwise_cons] at h2
  unfold swapAt
  rw [List.map_append, List.map_cons, if_pos rfl]
  congr 1
  · have : P.map (fun y => if y.g = x.g then x' else y) = P.map fun y => y := List.map_congr_left fun y hy => if_neg (h3 y hy x (List.mem_cons_self ..)).1
    rw [this, List.map_id']
  · congr 1
    have : R.map (fun y => if y.g = x.g then x' else y) = R.map fun y => y := List.map_congr_left fun y hy => if_neg (fun e => (h2.1 y hy).1 e.symm)
    rw [this, List.map_id']
theorem lose_mid {P R : List WIt} {x : WIt} (h : ((P ++ x :: R).map fun y => y.w.k).Nodup) : ((P ++ x :: R).filter fun y => !decide (y.w.k = x.w.k)) = P ++ R := by
  rw [List.map_append, List.map_cons, List.nodup_append, List.nodup_cons] at h
  obtain ⟨h1, ⟨h2, h3⟩, h4⟩ := h
  rw [List.filter_append, List.filter_cons, if_neg (by simp)]
  congr 1
  · rw [List.filter_eq_self]
    intro y hy
    simp only [Bool.not_eq_true', decide_eq_false_iff_not]
    exact h4 _ (List.mem_map_of_mem hy) _ (List.mem_cons_self ..)
  · rw [List.filter_eq_self]
    intro y hy
    simp only [Bool.not_eq_true', decide_eq_false_iff_not]
    exact fun e => h2 (List.mem_map.2 ⟨y, hy, e⟩)
theorem clonePt_any (v : Value) (n : Nat) (xs : List Value) (w : World) (h : RowN w 1 v n xs) (hone : ∀ u ∈ xs, u.oneCell' = true) (hsize : n ≤ 100000) :
    Calls Try.prog 44 #[v] w fun e w' => ∃ v', e = .returned v' ∧ w'.ownsRow w.heap.size 88 1 v' n xs ∧ Below w.heap.size w w' := by
  have Hb := hid h
  have Ho := hid hone
  obtain ⟨hl, A, cap, rfl, k1, k2, k3⟩ := h
  clear hone
  have qT : ∀ (w : World) (a : Option Addr) (n c n' c' : Nat), (binOp .eql 82 (.slice a n c) (.slice none n' c')).run Try.prog w = .ok (.bool a.isNone) w := fun w a n c n' c' => Lib.run_eql_slice_nil w _ _ a n c n' c' Try.underlying82
  cases A with
  | none =>
    have hn0 : n = 0 := by
      rcases k3 with k3 | ⟨_, _, k3, _⟩
      · exact k3
      · cases k3
    subst hn0
    have hxs : xs = [] := List.eq_nil_of_length_eq_zero (by simpa using hl)
    subst hxs
    clear k1 k2 k3 hl
    go_enter Try.func44, Try.ntmps44
    go_wp2
    go_ret
    exact ⟨_, rfl, World.ownsRow_nil _ _ _ _, Below.refl _ _⟩
  | some a =>
    clear k1 k2 k3 hl
    go_enter Try.func44, Try.ntmps44
    go_wp2_with (at_builtin; refine wpList_app _ rfl _ _ 82 rfl w.heap.size 88 (.pointer none) 1 8 pptrok _ 0 [] rfl (own_lit #[] 0 rfl (Nat.le_refl _) (by simp)) _ n xs rfl (Hb.out.alloc _) Ho.out (by omega) (by simp only [maxLen]; omega) (by simp) ?_; intro v1 w1 hown1 hg1 hat1; clear hat1; have Hg1 := hid hg1; clear hg1)
    rw [List.nil_append, Nat.zero_add] at hown1
    go_ret
    exact ⟨_, rfl, hown1, (below_alloc w (.cells #[] 88)).trans (grown_below (own_lit #[] 0 rfl (Nat.le_refl _) (by simp)) (by simp) Hg1.out)⟩

def tickOne (n : Int) (x : Wt) : Option Wt := if x.age + min n 3000 < 3000 then some { x with age := x.age + min n 3000 } else none
def TickPost (base g : Nat) (l : List Wt) (m : Nat) (F : Nat → Prop) (n : Int) (w : World) (e : Ending) (w' : World) : Prop :=
  e = .returned (.int .i64 (pTick l n).2) ∧ PtInv w' base g (pTick l n).1 m F ∧ Frame F w w'

set_option maxHeartbeats 2000000 in
theorem tick_any (base g : Nat) (l : List Wt) (m : Nat) (F : Nat → Prop) (n : Int) (w : World) (h : PtInv w base g l m F) (hy : ∀ x ∈ l, x.age < 3000) (h1 : -9223372036854775808 ≤ n) (h2 : n ≤ 9223372036854775807) :
    Calls Try.prog 26 #[.pointer (some ⟨g, 0, none⟩), .int .i64 n] w (TickPost base g l m F n w) := by
  by_cases hn : n < 1
  · have Hp := hid (show pTick l n = (l, 0) by unfold pTick; rw [if_pos hn])
    have H := hid h
    clear h hy
    go_enter Try.func26, Try.ntmps26
    go_wp2_with fail
    go_ret
    unfold TickPost
    rw [Hp.out]
    exact ⟨rfl, H.out, Frame.refl _ _⟩
  obtain ⟨L, vr, gM, f, rfl, h⟩ := h
  have H := hid h
  have Hp := hid (show pTick (L.map WIt.w) n = ((L.map WIt.w).filterMap (tickOne n), (((L.map WIt.w).filter fun x => decide (3000 ≤ x.age + min n 3000)).length : Int)) by unfold pTick; rw [if_neg hn]; rfl)
  have Hy := hid (show ∀ x ∈ L, x.w.age < 3000 from fun x hx => hy x.w (List.mem_map_of_mem hx))
  have hlL : L.length ≤ 4 := by have := h.ok.len; simpa using this
  have c0 : w.cell? ⟨g, 0, none⟩ = some vr := h.tab.cell 0
  have HC := hid (clonePt_any vr L.length (L.map WIt.ptr) w h.row.rowN (by intro u hu; obtain ⟨x, _, rfl⟩ := List.mem_map.1 hu; rfl) (by omega))
  clear h hy
  go_enter Try.func26, Try.ntmps26
  go_wp2_with (first | (go_at_call 44; refine HC.out.mono ?_; rintro e w1 ⟨v1, rfl, hown, hb⟩; obtain ⟨_, A1, cap1, rfl, hc1, hc2, _⟩ := RowN.of_own hown; have hc2' : cap1 ≤ 9223372036854775807 := (by simp only [maxLen] at hc2; omega); have Hown := hid hown; have Hb := hid hb; clear hown hb hc2) | fail)
  obtain ⟨d, hd⟩ : ∃ d, min n 3000 = d := ⟨_, rfl⟩
  have hd1 : 1 ≤ d ∧ d ≤ 3000 := by omega
  have Hd := hid hd
  have Hlt := hid (fun k (hk : F k) => (H.out.flt k hk).2)
  have K1 := hid (H.out.keep Hb.out)
  clear hd
  go_loopg [5, 7, 16] L.length (fun gk s5 s7 s16 wr => ∃ (kk : Nat) (Pre : List WIt) (vr2 : Value) (f2 : Value → Option Nat), kk ≤ L.length ∧ L.length - kk ≤ gk ∧ s16 = .int .i64 (kk : Int) ∧ (∃ c : Nat, s5 = .int .i64 (c : Int) ∧ c ≤ kk ∧ Hid (c = (((L.take kk).map WIt.w).filter fun x => decide (3000 ≤ x.age + min n 3000)).length)) ∧
    PtAt wr base g (Pre ++ L.drop kk) m vr2 gM f2 F ∧ Hid (Pre.map WIt.w = ((L.take kk).map WIt.w).filterMap (tickOne n)) ∧ Frame F w1 wr)
  case atStart => exact ⟨0, [], vr, f, Nat.zero_le _, by omega, rfl, ⟨0, rfl, Nat.le_refl _, hid rfl⟩, K1.out, hid rfl, Frame.refl _ _⟩
  case round =>
    obtain ⟨kk, Pre, vr2, f2, hkk, hgk, rfl, ⟨c, rfl, hck, HCc⟩, hK, HPre, hfr⟩ := hrel
    by_cases hkl : kk < L.length
    · have hkI : (kk : Int) < (L.length : Int) := by omega
      have hdrop : L.drop kk = L[kk] :: L.drop (kk + 1) := List.drop_eq_getElem_cons hkl
      rw [hdrop] at hK
      have hage := Hy.out L[kk] (List.getElem_mem hkl)
      have htake : (L.take (kk + 1)).map WIt.w = (L.take kk).map WIt.w ++ [L[kk].w] := by rw [take_snoc L kk hkl, List.map_append]; rfl
      have HTk := hid htake
      have hcell : ∃ gr off, A1 = some ⟨gr, off, none⟩ ∧ wr.cell? ⟨gr, off + kk, none⟩ = some (.pointer (some ⟨L[kk].g, 0, none⟩)) := by
        obtain ⟨_, A', cap', hv, _, _, hc⟩ := RowN.of_own (hfr.own Hown.out (fun k hk q => by have := (own_at Hown.out hk).1; have := Hlt.out k q; omega))
        injection hv with e1 _ e3
        subst e1; subst e3
        rcases hc with h0 | ⟨gr, off, rfl, hc⟩
        · omega
        · exact ⟨gr, off, rfl, hc kk _ (by simp [hkl, WIt.ptr, ptrV])⟩
      obtain ⟨gr, off, rfl, hcell⟩ := hcell
      generalize L[kk] = x at *
      have hxm : x ∈ Pre ++ x :: L.drop (kk + 1) := by simp
      have HK := hid hK
      have HFr := hid hfr
      have hok := hK.ok.it x.w (List.mem_map_of_mem hxm)
      have hblk := (hK.it x hxm).blk
      have b6 : wr.cell? ⟨x.g, 6, none⟩ = some (.int .i64 x.w.age) := hblk.cell 6
      have z6 := hblk.frozen 6
      have h0 := hok.age
      have hage2 : 0 ≤ x.w.age := h0.1
      have hwr6 : IntKind.i64.wrap (x.w.age + d) = x.w.age + d := IntWalk.i64_in _ (by omega)
      have hj1 : IntKind.i64.wrap ((kk : Int) + 1) = ((kk + 1 : Nat) : Int) := by rw [IntWalk.i64_in _ (by omega)]; omega
      have hc1 : IntKind.i64.wrap ((c : Int) + 1) = ((c + 1 : Nat) : Int) := by rw [IntWalk.i64_in _ (by omega)]; omega
      -- the world behind the age's store
      have K2 : PtAt (wr.setCell ⟨x.g, 6, none⟩ (.int .i64 (x.w.age + d))) base g (Pre ++ ⟨{ x.w with age := x.w.age + d }, x.g, x.pv, x.qs⟩ :: L.drop (kk + 1)) m vr2 gM f2 F := by
        have hgs := grown_set wr x.g 6 (.int .i64 (x.w.age + d))
        have hfo := frame_one hgs
        have hit := hK.it x hxm
        have := hK.turn (w' := wr.setCell ⟨x.g, 6, none⟩ (.int .i64 (x.w.age + d))) (m' := m) (F' := F) (x' := ⟨{ x.w with age := x.w.age + d }, x.g, x.pv, x.qs⟩) hxm rfl rfl (fun _ h => h)
          (hfo.blk hK.tab (fun e => Blk.ne hK.tab hblk (by decide) e)) (hK.row.same fun k hk => hgs.block k (hK.row.lt hk).2 (fun e => by injection e with e; subst e; exact hK.row.ne hblk (by decide) hk)) (hK.map.block (hgs.block gM hK.map.lt (fun e => hK.map.ne hblk (by injection e))))
          (fun y hy hne => (hK.it y hy).aside hit hne (hK.part hxm hy hne) (hfo.weaken (fun i _ q => .inl q)))
          ⟨hblk.set_ 6 _, hit.row.same (fun k hk => hgs.block k (hit.row.lt hk).2 (fun e => by injection e with e; subst e; exact hit.row.ne hblk (by decide) hk)), fun q hq => ownBs_store (hit.bod q hq) hblk (by decide) hgs, hit.fst, hit.fg, hit.fp, hit.fb⟩
          (fun y hy hne k hk => hK.part (x := x) hxm hy hne k hk) ⟨hok.key, hok.off, hok.fin, hok.le, by show 0 ≤ x.w.age + d ∧ x.w.age + d ≤ 4000000000000000000; omega⟩ (hK.few x hxm) (Nat.le_refl _) (fun k hk => ⟨(hK.flt k hk).1, Nat.lt_of_lt_of_le (hK.flt k hk).2 hgs.size⟩)
        rw [swap_mid hK.apart] at this
        exact this
      have Hfr2 := hid (hfr.trans (frame_one (grown_set wr x.g 6 (.int .i64 (x.w.age + d)))) (F := F) (fun i _ q => by subst q; exact (hK.it x hxm).fg))
      have HK2 := hid K2
      clear hK hfr hok hblk K2 hxm hdrop htake h0
      have hdc : n ≤ 3000 ∧ d = n ∨ ¬ n ≤ 3000 ∧ d = 3000 := by have := Hd.out; omega
      by_cases hold : 3000 ≤ x.w.age + d
      · have hold2 : x.w.age + d ≥ 3000 := hold
        have HLo := lose_at base g _ m vr2 gM f2 F _ (show (⟨{ x.w with age := x.w.age + d }, x.g, x.pv, x.qs⟩ : WIt) ∈ Pre ++ ⟨{ x.w with age := x.w.age + d }, x.g, x.pv, x.qs⟩ :: L.drop (kk + 1) by simp) _ HK2.out
        have hkeys := HK2.out.ok.keys
        rw [List.map_map] at hkeys
        rw [lose_mid hkeys] at HLo
        dsimp only at HLo
        rw [show ptrV (some x.g) = .pointer (some ⟨x.g, 0, none⟩) from rfl] at HLo
        have HLo := hid HLo
        have Hone := hid (show tickOne n x.w = none by unfold tickOne; rw [Hd.out, if_neg (by omega)])
        have Hcnt := hid (show (((L.take (kk + 1)).map WIt.w).filter fun x => decide (3000 ≤ x.age + min n 3000)).length = c + 1 by
          rw [HTk.out, List.filter_append, List.length_append, ← HCc.out, Hd.out]
          simp [hold])
        clear hkeys hold
        rcases hdc with ⟨hn3, rfl⟩ | ⟨hn3, rfl⟩
        all_goals
          go_wp2_with (first | (go_at_call 37; refine HLo.out.mono ?_; rintro e w6 ⟨⟨u, rfl⟩, vr', f', hk6, hfr6⟩; have Hk6 := hid hk6; have Hfr6 := hid hfr6; clear hk6 hfr6) | fail)
          go_roundg (L.length - (kk + 1))
          case measure => omega
          case rel => exact ⟨kk + 1, Pre, vr', f', by omega, Nat.le_refl _, rfl, ⟨c + 1, rfl, by omega, hid Hcnt.out.symm⟩, Hk6.out, hid (by rw [HTk.out, List.filterMap_append, ← HPre.out]; simp [Hone.out]), Hfr2.out.trans Hfr6.out (fun _ _ h => h)⟩
      · have hold2 : ¬ x.w.age + d ≥ 3000 := hold
        have Hone := hid (show tickOne n x.w = some { x.w with age := x.w.age + d } by unfold tickOne; rw [Hd.out, if_pos (by omega)])
        have Hcnt := hid (show (((L.take (kk + 1)).map WIt.w).filter fun x => decide (3000 ≤ x.age + min n 3000)).length = c by
          rw [HTk.out, List.filter_append, List.length_append, ← HCc.out, Hd.out]
          simp
          omega)
        obtain ⟨hn3, rfl⟩ : n ≤ 3000 ∧ d = n := by rcases hdc with h | h; exact h; exact absurd hold (by omega)
        clear hold hdc
        all_goals
          go_wp2_with fail
          go_roundg (L.length - (kk + 1))
          case measure => omega
          case rel => exact ⟨kk + 1, Pre ++ [⟨{ x.w with age := _ }, x.g, x.pv, x.qs⟩], vr2, f2, by omega, Nat.le_refl _, rfl, ⟨c, rfl, by omega, hid Hcnt.out.symm⟩, by rw [List.append_assoc]; exact HK2.out, hid (by rw [HTk.out, List.filterMap_append, ← HPre.out]; simp [Hone.out]), Hfr2.out⟩
    · obtain rfl : kk = L.length := by omega
      have hkI : ¬ (L.length : Int) < (L.length : Int) := by omega
      rw [List.drop_length, List.append_nil] at hK
      have hC := HCc.out
      have hP := HPre.out
      rw [List.take_length] at hC hP
      have HK := hid hK
      have HFr := hid hfr
      have HC2 := hid hC
      have HP2 := hid hP
      clear hK hfr hC hP
      go_wp2_with fail
      go_ret
      unfold TickPost
      rw [Hp.out]
      exact ⟨ret_int (by rw [HC2.out]), ⟨Pre, vr2, gM, f2, HP2.out, HK.out⟩, (Below.frameF Hb.out F).trans HFr.out (fun _ _ h => h)⟩
end Go.Proofs.Ytbjiicnagfeciaa
