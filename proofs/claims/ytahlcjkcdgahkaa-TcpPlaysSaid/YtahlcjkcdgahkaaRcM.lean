/- The document's Out. -/
import Derived.Test.YtahlcjkcdgahkaaRcK
namespace Go.Proofs.Ytahlcjkcdgahkaa
open Go Go.RowKit
attribute [local go_sem ↓] Go.wp_at_zero Go.wp_at_succ
set_option maxRecDepth 100000
set_option linter.unusedSimpArgs false

/-- where the loop of Out stands -/
structure RFreshAt (base g : Nat) (d : TConn) (m : Nat) (F : Nat → Prop) (w : World) (l2 : List TSeg) (gk : Nat) (v : Value) (d' : TConn) (qs : List (TSeg × Value)) (wr : World) : Prop where
  inv : RConn wr base g d' m F
  ok : OutOk d'
  bs : BaseOk d'
  inn : d'.inn = d.inn
  st : d'.state = d.state
  few : d'.out.left ≤ (gk : Int)
  own : OwnRgs wr w.heap.size v qs
  fr : Frame F w wr
  l : qs.map Prod.fst ++ (tFreshN gk d').1 = l2 ++ (tFresh d).1
  c : (tFreshN gk d').2 = (tFresh d).2
  many : qs.length + gk ≤ 65540
theorem RFreshAt.drewN {base g : Nat} {d : TConn} {m : Nat} {F : Nat → Prop} {w : World} {l2 : List TSeg} {gk : Nat} {v : Value} {d' : TConn} {qs : List (TSeg × Value)} {wr : World} (h : RFreshAt base g d m F w l2 gk v d' qs wr) (q : Nat) : RFreshAt base g d m F w l2 gk v d' qs (wr.drewN q) :=
  ⟨h.inv.drewN q, h.ok, h.bs, h.inn, h.st, h.few, h.own.drewN q, h.fr.trans (Below.frameF (below_drewN (Below.refl _ _) q) F) (fun _ _ h => h), h.l, h.c, h.many⟩
theorem quiet_not {c : TConn} (h : c.again = false) : ({ c with begin_ := false } : TConn) = tQuiet c := by
  cases c
  simp only at h
  subst h
  rfl
set_option maxHeartbeats 8000000 in
theorem rout_any (base g : Nat) (c : TConn) (m : Nat) (F : Nat → Prop) (w : World) (h : RConn w base g c m F) (hi : InOk c.inn) (ho : OutOk c) (hb : BaseOk c) :
    Calls Try.prog 51 #[.pointer (some ⟨g, 0, none⟩)] w (RSgsPost base g (tOut c).1 (tOut c).2 m F w) := by
  have HS := hid (show ROutAt base g m F w (.slice none 0 0) c [] w from ⟨h, OwnRgL.nil _ _, Frame.refl _ _, fun k hk => (h.bd k hk).2⟩)
  have Hrl := hid hi.len
  obtain ⟨wn, hwn⟩ : ∃ x : Int, 16384 - (c.inn.ready.length : Int) = x := ⟨_, rfl⟩
  have Hwn := hid hwn
  have Hi := hid hi
  have Ho := hid ho
  have Hb := hid hb
  obtain ⟨st, hst⟩ : ∃ x, c.state = x := ⟨_, rfl⟩
  have Hst := hid hst
  have c2 : w.cell? ⟨g, 2, none⟩ = some (.int .i64 st) := h.c2 hst
  have c4 : w.cell? ⟨g, 4, none⟩ = some (.int .u32 (c.out.u : Int)) := h.c4 rfl
  obtain ⟨gv, c20, hgv⟩ : ∃ gv, w.cell? ⟨g, 20, none⟩ = some (.bool gv) ∧ gv = (c.gave && !c.off) := by
    obtain ⟨own, owe, gv, lt, vi, vo, vs, h1, h2⟩ := h
    exact ⟨gv, h1.tab.cell 20, h2.gv⟩
  obtain ⟨ow, c17, how⟩ : ∃ ow, w.cell? ⟨g, 17, none⟩ = some (.bool ow) ∧ (c.state = 1 → ow = c.begin_) := by
    obtain ⟨own, owe, gv, lt, vi, vo, vs, h1, h2⟩ := h
    exact ⟨own, h1.tab.cell 17, h2.own⟩
  have Hgv := hid hgv
  have How := hid how
  have z20 := h.fz 20
  have z17 := h.fz 17
  clear h hi ho hb hwn hst hgv how
  cases gv with
  | true =>
    have hg : c.gave = true ∧ c.off = false := by have := Hgv.out; simpa using this.symm
    have Hr := hid (show tOut c = ([tSegment c c.out.n 20 []], { c with off := true }) by unfold tOut; rw [if_neg (by rw [hg.2]; simp), if_pos hg.1])
    have HS1 := hid (HS.out.to HS.out.inv.gave_ (HS.out.inv.fset 20 _))
    have d5 : (w.setCell ⟨g, 20, none⟩ (.bool false)).cell? ⟨g, 5, none⟩ = some (.int .u32 (c.out.n : Int)) := HS1.out.inv.c5 rfl
    have HG := hid (rsegc_at base g { c with off := true } m F c.out.n 20 (.slice none 0 0) [] 0 wn _ HS1.out.inv Hrl.out Hwn.out (Bs.nil _) rfl (by omega))
    clear hg
    go_enter Try.func51, Try.ntmps51
    go_wp2_with (go_at_call 68; (refine HG.out.mono ?_); rintro e w2 ⟨A2, cap2, rfl, hown, hb1⟩; have Hb2 := hid hb1; have Ho2 := hid hown; clear hown hb1)
    go_ret
    rw [Hr.out, ← Hwn.out]
    have hz := HS1.out.fr.size
    have h1 := OwnRgs.one (s := tSegment { c with off := true } c.out.n 20 []) (Ho2.out.mono hz) (Nat.le_trans hz Hb2.out.size)
    have hk := HS1.out.keep (below_alloc' Hb2.out (.cells ((tSegment { c with off := true } c.out.n 20 []).cells (.slice A2 0 cap2)).toArray 51))
    exact ⟨_, rfl, ⟨_, h1, rfl⟩, hk.inv, hk.fr⟩
  | false =>
  by_cases h5 : st = 5
  · subst h5
    have Hr := hid (show tOut c = ([], c) by
      have h := Hgv.out
      unfold tOut
      rcases Hb.out.five Hst.out with h1 | h1
      · rw [h1] at h
        rw [if_pos (by simpa using h.symm)]
      · rw [if_pos h1])
    go_enter Try.func51, Try.ntmps51
    go_wp2_with fail
    go_ret
    rw [Hr.out]
    exact HS.out.post
  have H5 := hid (show c.state ≠ 5 by rw [Hst.out]; exact h5)
  have h5b : (st == 5) = false := by simpa using h5
  have hof : c.off = false := by cases e : c.off with | false => rfl | true => exact absurd (Hb.out.off e) H5.out
  have hga : c.gave = false := by cases e : c.gave with | false => rfl | true => exact absurd (Hb.out.gave e) H5.out
  have Hr := hid (tOut_again hof hga)
  clear hof hga h5
  go_enter Try.func51, Try.ntmps51
  go_upto_if 31 with fail
  go_cut [3] from 27 to 49 (fun s wx => ∃ v, s = v ∧ ROutAt base g m F w v { c with begin_ := false } (tOutA c) wx)
  case first =>
    by_cases h1 : st = 1
    · subst h1
      have e := How.out Hst.out
      cases ow with
      | false =>
        have HA0 := hid (show tOutA c = [] by unfold tOutA; rw [if_neg (by intro h; rw [← e] at h; cases h.2)])
        have HS1 := hid (HS.out.to (HS.out.inv.begin0 (.inr e.symm)) (Frame.refl _ _))
        clear e
        go_wp2_with fail
        go_meet
        case rel => exact ⟨_, rfl, by rw [HA0.out]; exact HS1.out⟩
      | true =>
        have HA1 := hid (show tOutA c = [{ tSegment c c.out.u 18 [] with mss := 1460 }] by unfold tOutA; rw [if_pos ⟨Hst.out, e.symm⟩])
        clear e
        have HS1 := hid (HS.out.to (HS.out.inv.own_ false) (HS.out.inv.fset 17 _))
        have d4 : (w.setCell ⟨g, 17, none⟩ (.bool false)).cell? ⟨g, 4, none⟩ = some (.int .u32 (c.out.u : Int)) := HS1.out.inv.c4 rfl
        have HG := hid (rsegc_at base g { c with begin_ := false } m F c.out.u 18 (.slice none 0 0) [] 0 wn _ HS1.out.inv Hrl.out Hwn.out (Bs.nil _) rfl (by omega))
        go_upto_region 10 with fail
        generalize w.setCell ⟨g, 17, none⟩ (.bool false) = w1 at *
        clear c2 c4 c20 c17 z20 z17
        go_wp2_with (first
          | (go_at_call 68; (refine HG.out.mono ?_); rintro e w2 ⟨A2, cap2, rfl, hown, hb1⟩; have Hb2 := hid hb1; have Ho2 := hid hown; clear hown hb1)
          | ((with_reducible show wpList _ _ _ (Oper.mk none (Op.store _ (Operand.tmp 4) _) _ _ _ _ :: _) _ _); refine wpList_storeBlk rfl _ _ _ rfl _ _ rfl rfl _ _ (Blk.new _ _ _) rseginfo rfl rfl ?_; intro w5 hblk hg hsz; have Hk5 := hid (below_new_store hg); have Hg5 := hid hg; have HB5 := hid hblk; have b6 : w5.cell? ⟨w2.heap.size, 6, none⟩ = some (.int .i64 0) := hblk.cell 6; have z6 := hblk.frozen 6; clear hblk hg hsz)
          | ((with_reducible show wpList _ _ _ (Oper.mk (some 47) _ _ _ _ _ :: _) _ _); refine wpList_loadBlk rfl _ _ rfl _ rfl _ _ _ (HB5.out.set_ 6 _) Try.underlying51 rseginfo ?_)
          | ((with_reducible show wpList _ _ _ (Oper.mk (some 49) _ _ _ _ _ :: _) _ _); refine wpList_app _ rfl _ _ 90 rfl w.heap.size 51 sgzero 8 72 rgok (.slice none 0 0) 0 [] rfl (World.ownsRow_nil _ _ _ _) _ 1 [.int .i64 c.src, .int .i64 c.dst, .int .u32 (c.out.u : Int), .int .u32 (c.inn.r : Int), .int .i64 18, .int .i64 wn, .int .i64 1460, .slice A2 0 cap2] rfl (rowS_lit 8 #[.int .i64 c.src, .int .i64 c.dst, .int .u32 (c.out.u : Int), .int .u32 (c.inn.r : Int), .int .i64 18, .int .i64 wn, .int .i64 1460, .slice A2 0 cap2] 1 _ rfl (by simp) (by simp [maxLen])) (by simp [Value.oneCell']) (by omega) (by simp [maxLen]) (by have := Hk5.out.size; have := Hb2.out.size; have := HS1.out.fr.size; simp; omega) ?_; intro v9 w9 hown9 hg9 hat9; obtain ⟨_, A9, c9', rfl, _, _, _⟩ := RowN.of_own hown9; have Hown9 := hid hown9; have Hg9 := hid hg9; clear hown9 hg9 hat9))
        go_meet
        case rel =>
          have hb5 := Hb2.out.trans (Hk5.out.mono Hb2.out.size)
          have hgs := grown_set w5 w2.heap.size 6 (.int .i64 1460)
          have hb6 := below_alloc' (below_own hb5 hgs Hb2.out.size hb5.size) (.cells #[.int .i64 c.src, .int .i64 c.dst, .int .u32 (c.out.u : Int), .int .u32 (c.inn.r : Int), .int .i64 18, .int .i64 wn, .int .i64 1460, .slice A2 0 cap2] 51)
          have ho6 := (ownBs_store (Ho2.out.below Hk5.out) HB5.out (by decide) hgs)
          have hz := HS1.out.fr.size
          have h1 := ROutAt.one (qs := []) (s := { tSegment c c.out.u 18 [] with mss := 1460 }) (vs := .slice A2 0 cap2) HS1.out (OwnRgs.nil _ _) hb6 ((own_below ho6 (below_alloc _ _)).mono hz) (by show World.ownsRow _ _ _ _ _ _ (_ ++ [_, _, _, _, _, .int .i64 (16384 - (c.inn.ready.length : Int)), _, _]); rw [Hwn.out]; exact Hown9.out) Hg9.out
          refine ⟨_, rfl, ?_⟩
          rw [HA1.out]
          exact h1
    · have HA0 := hid (show tOutA c = [] by unfold tOutA; rw [if_neg (by intro h; exact h1 (Hst.out.symm.trans h.1))])
      have HS1 := hid (HS.out.to (HS.out.inv.begin0 (.inl (by rw [Hst.out]; exact h1))) (Frame.refl _ _))
      have h1b : (st == 1) = false := by simpa using h1
      clear h1
      go_wp2_with fail
      go_meet
      case rel => exact ⟨_, rfl, by rw [HA0.out]; exact HS1.out⟩
  case rest =>
  obtain ⟨v1, hv1, hS1⟩ := hcut
  subst u3
  have HS1 := hid hS1
  have HlA := hid (show (tOutA c).length ≤ 1 by unfold tOutA; split <;> simp)
  obtain ⟨ga, go, gg, gl, gi, gp, gs, hj, _⟩ := hS1.inv
  have c19 : wc.cell? ⟨g, 19, none⟩ = some (.bool c.again) := hj.tab.cell 19
  have z19 := hj.tab.frozen 19
  clear hS1 hj HS c2 c4 c20 c17 z20 z17
  generalize wc = w1 at *
  have HB := hid (tAgain_ok Ho.out)
  go_step
  go_upto_if 53 with fail
  go_cut [3] from 53 to 60 (fun s wx => ∃ v, s = v ∧ ROutAt base g m F w v (tAgain c).2 (tOutA c ++ (tAgain c).1) wx)
  case first =>
    cases hag : c.again with
    | false =>
      have He := hid (show tAgain c = ([], tQuiet c) by unfold tAgain; rw [if_neg (by rw [hag]; simp)])
      rw [hag] at c19
      have HS2 := hid (show ROutAt base g m F w v1 (tQuiet c) (tOutA c) w1 from by rw [← quiet_not hag]; exact HS1.out)
      clear hag
      go_wp2_with fail
      go_meet
      case rel => exact ⟨_, rfl, by rw [He.out, List.append_nil]; exact HS2.out⟩
    | true =>
      have He := hid (show tAgain c = tResent (tQuiet c) by unfold tAgain; rw [if_pos hag])
      have hs := hid (show c.state = 2 ∨ c.state = 3 ∨ c.state = 4 from by
        have h1 : c.state ≠ 1 := fun e => by have := (Hb.out.s1 e).2.2.2.2.2; rw [hag] at this; cases this
        have := Ho.out.st
        have := H5.out
        omega)
      rw [hag] at c19
      clear hag
      have HS2 := hid (show ROutAt base g m F w v1 (tQuiet c) (tOutA c) (w1.setCell ⟨g, 19, none⟩ (.bool false)) from HS1.out.to (HS1.out.inv.again_ false) (HS1.out.inv.fset 19 _))
      have HRe := hid (ragain_any base g (tQuiet c) m F _ HS2.out.inv Hi.out (quiet_ok Ho.out) (quiet_base' Hb.out) hs.out)
      obtain ⟨qs, hq, hql⟩ := HS2.out.own
      have Hq := hid hq
      have Hql := hid hql
      obtain ⟨_, Ao, co, rfl, _, _, _⟩ := RowN.of_own hq.row
      have Hn := hid (show qs.length ≤ 1 by have := congrArg List.length hql; rw [List.length_map] at this; have := HlA.out; omega)
      clear hq hql
      go_wp2_with (first
        | (go_at_call 69; (refine HRe.out.mono ?_); rintro e w2 ⟨v2, rfl, ⟨rs, hown, hrl⟩, hinv, hfr⟩; have Hown2 := hid hown; have Hrl2 := hid hrl; have Hinv2 := hid hinv; have Hfr2 := hid hfr; have Hrn := hid (show rs.length ≤ 1 by have h1 := congrArg List.length hrl; rw [List.length_map] at h1; have := (tResent_ok (quiet_ok Ho.out)).2.2; omega); clear hown hrl hinv hfr)
        | ((with_reducible show wpList _ _ _ (Oper.mk (some 60) _ _ _ _ _ :: _) _ _); refine wpList_app _ rfl _ _ 90 rfl w.heap.size 51 sgzero 8 72 rgok (.slice Ao qs.length co) qs.length (sgRow qs) rfl (Hq.out.frame Hfr2.out HS2.out.flt).row v2 rs.length (sgRow rs) rfl (RowN.of_own Hown2.out.row) (rsgRow_one' rs _ _ _ Hown2.out) (by have := Hn.out; have := Hrn.out; omega) (by have := Hn.out; have := Hrn.out; simp only [maxLen]; omega) (by have := HS2.out.fr.size; have := Hfr2.out.size; omega) ?_; intro v9 w9 hown9 hg9 hat9; have Hown9 := hid hown9; have Hg9 := hid hg9; clear hown9 hg9 hat9))
      go_meet
      case rel =>
        refine ⟨_, rfl, ?_⟩
        rw [He.out]
        have hz := HS2.out.fr.size
        have happ := OwnRgs.app (Hq.out.frame Hfr2.out HS2.out.flt) (fun p hp => (Hown2.out.datas p hp).mono hz) Hown9.out Hg9.out
        exact ROutAt.many HS2.out Hinv2.out Hfr2.out (Hq.out.frame Hfr2.out HS2.out.flt) Hg9.out ⟨_, happ, by rw [List.map_append, Hql.out, Hrl2.out]⟩
  case rest =>
  obtain ⟨v2, hv2, hS2⟩ := hcut
  subst u3
  have HS2 := hid hS2
  have Hlb := hid (show (tOutA c ++ (tAgain c).1).length ≤ 2 by rw [List.length_append]; have := HlA.out; have := HB.out.2.2; omega)
  have HbB := hid (tAgain_base Hb.out)
  have Hr2 := hid (show (tAgain c).2.inn = c.inn ∧ (tAgain c).2.state = st from ⟨HB.out.2.1.inn, HB.out.2.1.state.trans Hst.out⟩)
  have HoB := hid HB.out.1
  clear hS2 HS1 c19 z19 HB
  generalize wc = w2 at *
  generalize (tAgain c).2 = d at *
  generalize tOutA c ++ (tAgain c).1 = l2 at *
  have e2 : w2.cell? ⟨g, 2, none⟩ = some (.int .i64 st) := HS2.out.inv.c2 Hr2.out.2
  go_step
  go_upto_region 16 with fail
  obtain ⟨tb, htb⟩ : ∃ b, decide (st = 2 ∨ st = 3) = b := ⟨_, rfl⟩
  have Htb := hid htb
  clear htb
  go_cut [72] from 61 to 71 (fun s wx => s = .bool tb ∧ wx = w2)
  case first =>
    have htb := Htb.out
    by_cases k2 : st = 2
    · have e : tb = true := by rw [← htb, k2]; rfl
      subst k2
      subst e
      clear htb
      go_wp2_with fail
      go_meet
      case rel => exact ⟨rfl, rfl⟩
    by_cases k3 : st = 3
    · have e : tb = true := by rw [← htb, k3]; rfl
      subst k3
      subst e
      clear htb
      go_wp2_with fail
      go_meet
      case rel => exact ⟨rfl, rfl⟩
    have e : tb = false := by rw [← htb]; simp [k2, k3]
    subst e
    have k2b : (st == 2) = false := by simpa using k2
    have k3b : (st == 3) = false := by simpa using k3
    clear htb k2 k3
    go_wp2_with fail
    go_meet
    case rel => exact ⟨rfl, rfl⟩
  case rest =>
  obtain ⟨h72, hww⟩ := hcut
  have hww := hww.symm
  subst u72
  subst hww
  go_step
  go_cut [3] from 72 to 148 (fun s wx => ∃ v, s = v ∧ ROutAt base g m F w v (tOutC d).2 (l2 ++ (tOutC d).1) wx)
  case first =>
    cases tb with
    | false =>
      have He := hid (show tOutC d = ([], d) by unfold tOutC; rw [if_neg (by rw [Hr2.out.2]; exact of_decide_eq_false Htb.out)])
      go_wp2_with fail
      go_meet
      case rel => exact ⟨_, rfl, by rw [He.out, List.append_nil]; exact HS2.out⟩
    | true =>
      have hs := hid (show d.state = 2 ∨ d.state = 3 from by rw [Hr2.out.2]; exact of_decide_eq_true Htb.out)
      have HC0 := hid (show tOutC d = tFresh d by unfold tOutC; rw [if_pos hs.out])
      have HFa := hid (show ∃ v qs d', v2 = v ∧ RFreshAt base g d m F w l2 d.out.left.toNat v d' qs w2 from by
        obtain ⟨qs, h1, h2⟩ := HS2.out.own
        exact ⟨_, qs, d, rfl, HS2.out.inv, HoB.out, HbB.out, rfl, rfl, by have := HoB.out.sent1; unfold TOut.left; omega, h1, HS2.out.fr, by rw [h2]; rfl, rfl, by have := congrArg List.length h2; rw [List.length_map] at this; have := Hlb.out; have := HoB.out.len; have := HoB.out.sent0; unfold TOut.left; omega⟩)
      have Hflt := hid HS2.out.flt
      go_wp2_with fail
      go_loopg [3] (d.out.left.toNat) (fun gk v wr => ∃ d' qs, RFreshAt base g d m F w l2 gk v d' qs wr)
      case atStart => obtain ⟨v, qs, d', rfl, h⟩ := HFa.out; exact ⟨_, _, h⟩
      case round =>
        obtain ⟨d', qs, hS⟩ := hrel
        have HF := hid hS
        obtain ⟨ga', go', gg', gl', gi', gp', vs', hj, _⟩ := hS.inv
        obtain ⟨n, hn⟩ : ∃ n, d'.out.bytes.length = n := ⟨_, rfl⟩
        obtain ⟨A, cap, rfl⟩ : ∃ A c2, vs' = .slice A n c2 := by rw [← hn]; obtain ⟨_, A, c2, rfl, _⟩ := hj.snt.rowN; exact ⟨A, c2, rfl⟩
        have hcap : n ≤ cap := by obtain ⟨_, _, _, hv, h1, _⟩ := hj.snt.rowN; injection hv with _ _ e3; omega
        have hn65 : n ≤ 65536 := by rw [← hn]; exact hS.ok.len
        obtain ⟨k, hk⟩ : ∃ k : Nat, d'.out.sent = k := ⟨d'.out.sent.toNat, by have := hS.ok.sent0; omega⟩
        have hkn : k ≤ n := by have := hS.ok.sent1; rw [hk, hn] at this; omega
        obtain ⟨mm, hmm⟩ : ∃ mm : Nat, d'.out.m = mm := ⟨d'.out.m.toNat, by have := hS.ok.m0; omega⟩
        obtain ⟨ww, hww⟩ : ∃ mm : Nat, d'.out.w = mm := ⟨d'.out.w.toNat, by have := hS.ok.w0; omega⟩
        have hm1 : 64 ≤ mm ∧ mm ≤ 1460 := by have := hS.ok.m0; have := hS.ok.m1; omega
        have hw1 : ww ≤ 65535 := by have := hS.ok.w1; omega
        have hs' : d'.state = 2 ∨ d'.state = 3 := by rw [hS.st]; exact hs.out
        have hbase := hS.bs.base (by omega)
        have hfin : d'.out.fin = false := by cases e : d'.out.fin with | false => rfl | true => have := hS.ok.fin e; omega
        have hdk : (mSub d'.out.n d'.out.u : Int) = k := by have h := hk; unfold TOut.sent at h; rw [hfin, hbase] at h; simpa using h
        have hleft : d'.out.left = (n : Int) - (k : Int) := by unfold TOut.left; rw [hk, hn]
        have Hroom := hid (show d'.room = min (mm : Int) (min ((n : Int) - (k : Int)) ((ww : Int) - (k : Int))) by unfold TConn.room; rw [hmm, hleft, hww, hdk])
        have c3' : wr.cell? ⟨g, 5, none⟩ = some (.int .u32 (d'.out.n : Int)) := hj.tab.cell 5
        have c10' : wr.cell? ⟨g, 10, none⟩ = some (.slice A n cap) := hj.tab.cell 10
        have c11' : wr.cell? ⟨g, 11, none⟩ = some (.int .i64 (ww : Int)) := by rw [← hww]; exact hj.tab.cell 11
        have c12' : wr.cell? ⟨g, 12, none⟩ = some (.int .i64 (mm : Int)) := by rw [← hmm]; exact hj.tab.cell 12
        have HA := hid hj
        have HWy := hid (show ∀ j, Calls Try.prog 70 #[.pointer (some ⟨g, 0, none⟩)] (wr.drewN j) fun e w' => e = .returned (.int .i64 (k : Int)) ∧ ∃ q, w' = (wr.drewN j).drewN q from fun j => by rw [← hk, ← rway_law hS.bs (by omega)]; exact rway_at g d'.state d'.out.u d'.out.n d'.out.fin (wr.drewN j) hS.ok.u hS.ok.n (hj.tab.cell 2) (hj.tab.cell 4) c3' (hj.tab.cell 14))
        have Hk := hid hk
        have Hn := hid hn
        have Hleft := hid hleft
        have Hnl := hid hS.ok.n
        clear hS hj hn hk hmm hww hs' hbase hfin hdk hleft e2
        by_cases hgo : k < n ∧ k < ww
        case neg =>
          have Hno := hid (tFreshN_no (c := d') (by rw [Hleft.out, Hroom.out]; exact fun h => hgo (by omega)) gk)
          have hcs : (¬ k < n) ∨ (k < n ∧ ¬ k < ww) := by by_cases z : k < n; exact .inr ⟨z, fun z2 => hgo ⟨z, z2⟩⟩; exact .inl z
          clear hgo
          rcases hcs with z1 | ⟨z1, z2⟩
          all_goals
            go_upto_region 17 with fail
            go_quiet ((go_at_call 70; exact Calls.quiet_of (HWy.out _)))
            go_wp2_with fail
            go_meet
            case rel =>
              have h := HF.out
              have h1 := h.l
              have h2 := h.c
              rw [Hno.out] at h1 h2
              simp only [List.append_nil] at h1
              simp only at h2
              refine ⟨_, rfl, ?_⟩
              rw [HC0.out, ← h1, ← h2]
              exact ROutAt.drewN ⟨h.inv, ⟨qs, h.own, rfl⟩, h.fr, Hflt.out⟩ _
        obtain ⟨t1, t2⟩ := hgo
        obtain ⟨j, rfl⟩ : ∃ j, gk = j + 1 := ⟨gk - 1, by have := HF.out.few; rw [Hleft.out] at this; omega⟩
        obtain ⟨q, hrm⟩ : ∃ q : Nat, d'.room = q := ⟨d'.room.toNat, by rw [Hroom.out]; omega⟩
        have hq0 : 0 < q := by have h := Hroom.out; rw [hrm] at h; omega
        have hql : k + q ≤ n ∧ q ≤ mm ∧ k + q ≤ ww := by have h := Hroom.out; rw [hrm] at h; omega
        have Hif := hid (show (if (if ww < n then (ww : Int) - (k : Int) else (n : Int) - (k : Int)) < (mm : Int) then (if ww < n then (ww : Int) - (k : Int) else (n : Int) - (k : Int)) else (mm : Int)) = (q : Int) from by
          have h := Hroom.out
          rw [hrm] at h
          split <;> split at * <;> omega)
        have Hrm := hid hrm
        obtain ⟨fl, hfl⟩ : ∃ x : Int, (if (q : Int) = d'.out.left then 24 else 16) = x := ⟨_, rfl⟩
        have Hfl := hid hfl
        clear hrm hfl
        go_upto_region 17 with fail
        go_quiet ((go_at_call 70; exact Calls.quiet_of (HWy.out _)))
        revert nq
        intro q1
        go_upto_region 19 with (go_at_call 70; refine (HWy.out _).mono ?_; rintro e w' ⟨rfl, q0, rfl⟩)
        go_quiet (fail)
        go_upto_region 21 with fail
        rw [Hif.out, World.drewN_drewN]
        have HFd := hid (HF.out.drewN (q1 + q0 + nq))
        have HAd := hid (HA.out.drewN (q1 + q0 + nq))
        clear HF HA HWy c3' c10' c11' c12'
        generalize wr.drewN (q1 + q0 + nq) = wz at *
        have c5 : wz.cell? ⟨g, 5, none⟩ = some (.int .u32 (d'.out.n : Int)) := HFd.out.inv.c5 rfl
        have c10 : wz.cell? ⟨g, 10, none⟩ = some (.slice A n cap) := HAd.out.tab.cell 10
        have hkq : IntKind.i64.wrap ((k : Int) + (q : Int)) = (k : Int) + (q : Int) := IntWalk.i64_in _ (by omega)
        go_upto_if 119 with fail
        go_cut [7] from 73 to 119 (fun s wx => s = .int .i64 fl ∧ wx = wz)
        case first =>
          by_cases hqf : k + q = n
          · have e : (24 : Int) = fl := by rw [← Hfl.out, if_pos (by rw [Hleft.out]; omega)]
            have He := hid e
            have h53 : ((k : Int) + (q : Int) == (n : Int)) = true := by simp; omega
            have Hqf := hid hqf
            clear e hqf
            go_wp2_with fail
            all_goals
              go_meet
              case rel => exact ⟨by rw [← He.out], rfl⟩
          · have e : (16 : Int) = fl := by rw [← Hfl.out, if_neg (by rw [Hleft.out]; omega)]
            have He := hid e
            have h53 : ((k : Int) + (q : Int) == (n : Int)) = false := by simp; omega
            have Hqf := hid hqf
            clear e hqf
            go_wp2_with fail
            all_goals
              go_meet
              case rel => exact ⟨by rw [← He.out], rfl⟩
        case rest =>
        obtain ⟨rfl, hww⟩ := hcut
        have hww := hww.symm
        subst hww
        obtain ⟨ii, hii, hz, hss, hbyy⟩ := info_parts u8info
        have cut1 := run_cut (P := Try.prog) (T := 28) Try.underlying28 hii A n cap .i64 .i64 (k : Int) ((k : Int) + (q : Int)) k q rfl rfl (by omega)
        rw [hss] at cut1
        clear hii hz hss hbyy
        obtain ⟨sd, hsd⟩ : ∃ sd, (d'.out.bytes.drop k).take q = sd := ⟨_, rfl⟩
        have HBz := hid (show Bs wz (.slice A n cap) d'.out.bytes by have := HAd.out.snt.rowN; rw [Hn.out] at this; unfold Bs; rw [Hn.out]; exact this)
        have HBS := hid (show Bs wz (.slice (cutA A cap k 1) q (cap - k)) sd by rw [← hsd]; exact Bs.cut HBz.out (by rw [Hn.out]; omega))
        have Hsd := hid hsd
        have Hsl := hid (show sd.length = q by rw [← hsd]; simp; rw [Hn.out]; omega)
        obtain ⟨_, Ao, co, rfl, _, _, _⟩ := RowN.of_own HFd.out.own.row
        have Hrl' := hid (show d'.inn.ready.length ≤ 16384 by rw [HFd.out.inn, Hr2.out.1]; exact Hrl.out)
        have Hwn' := hid (show 16384 - (d'.inn.ready.length : Int) = wn by rw [HFd.out.inn, Hr2.out.1]; exact Hwn.out)
        have Hbase := hid (show w.heap.size ≤ wz.heap.size from HFd.out.fr.size)
        have Hmany := hid HFd.out.many
        have Hglt := hid (show g < w.heap.size from Hflt.out g HAd.out.fg)
        obtain ⟨n2, hn2⟩ : ∃ x, (d'.out.n + q) % 4294967296 = x := ⟨_, rfl⟩
        have hn2I : ((d'.out.n : Int) + (q : Int)) % 4294967296 = (n2 : Int) := by omega
        have Hn2 := hid hn2
        clear hn2 hsd
        go_step
        go_upto_region 23 with fail
        go_region_held3 (fun wx => wx.cell? ⟨g, 5, none⟩ = some (.int .u32 (d'.out.n : Int)) ∧ wx.cell? ⟨g, 10, none⟩ = some (.slice A n cap)) (first | exact ⟨c5, c10⟩ | exact ⟨cell_below (below_drew _) c5, cell_below (below_drew _) c10⟩ | exact ⟨cell_below Hb2.out c5, cell_below Hb2.out c10⟩ | exact ⟨cell_below (below_alloc' Hb2.out _) c5, cell_below (below_alloc' Hb2.out _) c10⟩ | exact HS9.out) (first
          | (go_at_call 68; (with_reducible refine (rsegc_at base g d' m F d'.out.n fl (.slice (cutA A cap k 1) q (cap - k)) sd q wn _ (by first | exact HFd.out.inv | exact HFd.out.inv.keep (below_drew _)) Hrl'.out Hwn'.out (by first | exact HBS.out | exact HBS.out.drew) Hsl.out (by omega)).mono ?_); rintro e w2 ⟨A2, cap2, rfl, hown, hb1⟩; have Hb2 := hid (show Below wz.heap.size wz w2 from by first | exact hb1 | exact (below_drew wz).trans hb1); have Ho2 := hid (show OwnBs w2 wz.heap.size 5 (.slice A2 q cap2) sd from hown); have Hq2 := hid (HFd.out.own.below Hb2.out); clear hown hb1)
          | (refine step_appG _ (by rfl) _ _ 90 (by rfl) w.heap.size 51 sgzero 8 72 rgok (.slice Ao qs.length co) qs.length (sgRow qs) (by rfl) (by first | exact own_below Hq2.out.row (below_alloc _ _) | exact Hq2.out.row) (.slice (some ⟨w2.heap.size, 0, none⟩) 1 1) 1 [.int .i64 d'.src, .int .i64 d'.dst, .int .u32 (d'.out.n : Int), .int .u32 (d'.inn.r : Int), .int .i64 fl, .int .i64 wn, .int .i64 0, .slice A2 q cap2] (by rfl) (by exact rowS_lit 8 #[.int .i64 d'.src, .int .i64 d'.dst, .int .u32 (d'.out.n : Int), .int .u32 (d'.inn.r : Int), .int .i64 fl, .int .i64 wn, .int .i64 0, .slice A2 q cap2] 1 _ rfl (by simp) (by simp [maxLen])) (by simp [Value.oneCell']) (by have := Hmany.out; omega) (by have := Hmany.out; simp only [maxLen]; omega) (by have := Hb2.out.size; have := Hbase.out; simp; omega) ?_; intro v9 w9 hown9 hg9; obtain ⟨_, A9, c9', rfl, _, _, _⟩ := RowN.of_own hown9; have Hown9 := hid hown9; have Hg9 := hid hg9; have hq9 : Below w.heap.size wz w9 := ((Hb2.out.mono Hbase.out).alloc (by have := Hb2.out.size; have := Hbase.out; omega) (.cells #[.int .i64 d'.src, .int .i64 d'.dst, .int .u32 (d'.out.n : Int), .int .u32 (d'.inn.r : Int), .int .i64 fl, .int .i64 wn, .int .i64 0, .slice A2 q cap2] 51)).trans (grown_below (own_below Hq2.out.row (below_alloc _ _)) (by have := Hb2.out.size; have := Hbase.out; simp; omega) hg9); have Hq9 := hid hq9; have HS9 := hid (And.intro ((hq9.cell (p := ⟨g, 5, none⟩) Hglt.out).trans c5) ((hq9.cell (p := ⟨g, 10, none⟩) Hglt.out).trans c10)); clear hown9 hg9 hq9)
          | fail)
        have c5z : w9.cell? ⟨g, 5, none⟩ = some (.int .u32 (d'.out.n : Int)) := HS9.out.1
        have HI9 := hid (HFd.out.inv.behind Hflt.out Hq9.out)
        have z5 := HI9.out.fz 5
        clear c5 c10 HS9
        go_wp2_with fail
        go_roundg j
        case measure => omega
        case rel =>
          have hS := HFd.out
          have hok := sentMore_ok (q := q) hS.ok (by rw [Hleft.out]; omega)
          have hy := tFreshN_yes (c := d') (q := q) (by rw [Hleft.out]; omega) Hrm.out hq0 j
          rw [Hfl.out, Hk.out, Int.toNat_natCast, Hsd.out] at hy
          have hl := hS.l
          have hc := hS.c
          rw [hy] at hl hc
          have hsn := HI9.out.n_ n2
          have he : tSentMore d' q = { d' with out := { d'.out with n := n2 } } := by unfold tSentMore; rw [Hn2.out]
          refine ⟨tSentMore d' q, qs ++ [(tSegment d' d'.out.n fl sd, .slice A2 q cap2)], ⟨by rw [he]; exact hsn, hok.1, ?_, hS.inn, hS.st, ?_, ?_, (hS.fr.tail Hq9.out).trans (HI9.out.fset 5 _) (fun _ _ h => h), ?_, hc, ?_⟩⟩
          · have hs2 := hS.st
            have hs3 := hs.out
            exact out_base hS.bs (by omega) _ (fun e => by omega)
          · have e1 : (tSentMore d' q).out.left = d'.out.left - q := by
              unfold TOut.left
              rw [hok.2]
              show (d'.out.bytes.length : Int) - _ = _
              omega
            have := hS.few
            rw [e1]
            omega
          · have happ := OwnRgs.app (w' := w9) (v' := .slice A9 (qs.length + 1) c9') (rs := [(tSegment d' d'.out.n fl sd, .slice A2 q cap2)]) (Hq2.out.below (below_alloc w2 (.cells #[.int .i64 d'.src, .int .i64 d'.dst, .int .u32 (d'.out.n : Int), .int .u32 (d'.inn.r : Int), .int .i64 fl, .int .i64 wn, .int .i64 0, .slice A2 q cap2] 51))) (fun p hp => by
                obtain rfl : p = _ := by simpa using hp
                exact own_below (Ho2.out.mono Hbase.out) (below_alloc _ _)) (by rw [sgRow_one]; show World.ownsRow _ _ _ _ _ _ (_ ++ [_, _, _, _, _, .int .i64 (16384 - (d'.inn.ready.length : Int)), _, _]); rw [Hwn'.out]; exact Hown9.out) Hg9.out
            exact happ.frame (HI9.out.fset 5 _) Hflt.out
          · rw [List.map_append]
            simp only [List.map_cons, List.map_nil, List.append_assoc, List.singleton_append]
            exact hl
          · have := hS.many
            simp
            omega
  case rest =>
  obtain ⟨v4, hv4, hS4⟩ := hcut
  subst u3
  have HS4 := hid hS4
  have HC := hid (tOutC_ok HoB.out)
  obtain ⟨d4, hd4⟩ : ∃ x, (tOutC d).2 = x := ⟨_, rfl⟩
  obtain ⟨l4, hl4⟩ : ∃ l, l2 ++ (tOutC d).1 = l := ⟨_, rfl⟩
  have Hr4 := hid (show tOut c = (l4 ++ (tOutD d4).1 ++ tOutE (tOutD d4).2 (l4 ++ (tOutD d4).1), { (tOutD d4).2 with acks := false }) from by rw [Hr.out]; unfold tOut2; simp only [hd4, hl4])
  have Hok4 := hid (show OutOk d4 by rw [← hd4]; exact HC.out.1)
  have Hb4 := hid (show BaseOk d4 by rw [← hd4]; exact tOutC_base HbB.out)
  have Hin4 := hid (show d4.inn = c.inn by rw [← hd4, HC.out.2.1.inn]; exact Hr2.out.1)
  have Hst4 := hid (show d4.state = st by rw [← hd4, HC.out.2.1.state]; exact Hr2.out.2)
  have Hn4 := hid (show l4.length ≤ 65538 by rw [← hl4, List.length_append]; have := Hlb.out; have := HC.out.2.2; omega)
  rw [hd4, hl4] at HS4
  clear hS4 hd4 hl4 HS2 HC Hr e2
  generalize wc = w4 at *
  obtain ⟨ga, go, gg, gl, gi, gp, vs4, hj, hjr⟩ := HS4.out.inv
  obtain ⟨n, hn⟩ : ∃ n, d4.out.bytes.length = n := ⟨_, rfl⟩
  obtain ⟨A, cap, rfl⟩ : ∃ A c2, vs4 = .slice A n c2 := by rw [← hn]; obtain ⟨_, A, c2, rfl, _⟩ := hj.snt.rowN; exact ⟨A, c2, rfl⟩
  have hn65 : n ≤ 65536 := by rw [← hn]; exact Hok4.out.len
  obtain ⟨en, hen⟩ : ∃ x, d4.out.ended = x := ⟨_, rfl⟩
  obtain ⟨k, hk⟩ : ∃ k : Nat, d4.out.sent = k := ⟨d4.out.sent.toNat, by have := Hok4.out.sent0; omega⟩
  have hkn : k ≤ n := by have := Hok4.out.sent1; rw [hk, hn] at this; omega
  have c2 : w4.cell? ⟨g, 2, none⟩ = some (.int .i64 st) := HS4.out.inv.c2 Hst4.out
  have c13 : w4.cell? ⟨g, 13, none⟩ = some (.bool en) := by rw [← hen]; exact hj.tab.cell 13
  have c10 : w4.cell? ⟨g, 10, none⟩ = some (.slice A n cap) := hj.tab.cell 10
  have HWy := hid (show d4.state = 3 → ∀ j, Calls Try.prog 70 #[.pointer (some ⟨g, 0, none⟩)] (w4.drewN j) fun e w' => e = .returned (.int .i64 (k : Int)) ∧ ∃ q, w' = (w4.drewN j).drewN q from fun e j => by rw [← hk, ← rway_law Hb4.out (.inr (.inl e))]; exact rway_at g d4.state d4.out.u d4.out.n d4.out.fin (w4.drewN j) Hok4.out.u Hok4.out.n (hj.tab.cell 2) (hj.tab.cell 4) (hj.tab.cell 5) (hj.tab.cell 14))
  have Hleft := hid (show d4.out.left = (n : Int) - (k : Int) by unfold TOut.left; rw [hk, hn])
  have Hen := hid hen
  obtain ⟨td, htd⟩ : ∃ b, decide (st = 3 ∧ en = true ∧ n = k) = b := ⟨_, rfl⟩
  have Htd := hid htd
  clear hj hjr hn hen hk htd Htb
  go_step
  go_upto_region 25 with fail
  go_cut [169] from 149 to 168 (fun s wx => s = .bool td ∧ ∃ q, wx = w4.drewN q)
  case first =>
    have htd := Htd.out
    by_cases h3 : st = 3
    · subst h3
      cases en with
      | false =>
        have e : td = false := by rw [← htd]; rfl
        subst e
        clear htd
        go_quiet ((go_at_call 70; exact Calls.quiet_of (HWy.out Hst4.out _)))
        go_wp2_with fail
        go_meet
        case rel => exact ⟨rfl, _, rfl⟩
      | true =>
        have e : ((n : Int) == (k : Int)) = td := by
          rw [← htd]
          by_cases z : n = k
          · simp [z]
          · have z2 : ¬ (n : Int) = (k : Int) := by omega
            simp [z, z2]
        have He := hid e
        clear htd e
        go_quiet ((go_at_call 70; exact Calls.quiet_of (HWy.out Hst4.out _)))
        go_wp2_with fail
        go_meet
        case rel => exact ⟨congrArg Value.bool He.out, _, rfl⟩
    · have h3b : (st == 3) = false := by simpa using h3
      have e : td = false := by rw [← htd]; simp [h3]
      subst e
      clear htd h3
      go_quiet (fail)
      go_wp2_with fail
      go_meet
      case rel => exact ⟨rfl, _, rfl⟩
  case rest =>
  obtain ⟨h169, q4, hwq⟩ := hcut
  subst u169
  subst hwq
  have HS5 := hid (HS4.out.drewN q4)
  clear HS4 HWy c2 c13 c10
  generalize w4.drewN q4 = w5 at *
  have HD := hid (tOutD_ok Hok4.out)
  obtain ⟨n1, hn1⟩ : ∃ x, (d4.out.n + 1) % 4294967296 = x := ⟨_, rfl⟩
  have hn1I : ((d4.out.n : Int) + 1) % 4294967296 = (n1 : Int) := by omega
  have Hn1 := hid hn1
  clear hn1
  go_step
  go_cut [3] from 169 to 193 (fun s wx => ∃ v, s = v ∧ ROutAt base g m F w v (tOutD d4).2 (l4 ++ (tOutD d4).1) wx)
  case first =>
    cases td with
    | false =>
      have He := hid (show tOutD d4 = ([], d4) from by
        have htd := of_decide_eq_false Htd.out
        unfold tOutD
        rw [if_neg (by
          intro h
          rw [Hst4.out, Hen.out, Hleft.out] at h
          exact htd ⟨h.1, h.2.1, by omega⟩)])
      go_wp2_with fail
      go_meet
      case rel => exact ⟨_, rfl, by rw [He.out, List.append_nil]; exact HS5.out⟩
    | true =>
      have htd := of_decide_eq_true Htd.out
      have H3 := hid (show d4.state = 3 from by rw [Hst4.out]; exact htd.1)
      have He := hid (show tOutD d4 = ([tSegment d4 d4.out.n 17 []], { d4 with out := { d4.out with n := n1, fin := true }, state := 4 }) from by
        unfold tOutD
        rw [if_pos ⟨H3.out, by rw [Hen.out]; exact htd.2.1, by rw [Hleft.out]; omega⟩, Hn1.out])
      have c5 : w5.cell? ⟨g, 5, none⟩ = some (.int .u32 (d4.out.n : Int)) := HS5.out.inv.c5 rfl
      obtain ⟨qs, hq, hql⟩ := HS5.out.own
      have Hq := hid hq
      have Hql := hid hql
      obtain ⟨_, Ao, co, rfl, _, _, _⟩ := RowN.of_own hq.row
      have Hn := hid (show qs.length ≤ 65538 by have := congrArg List.length hql; rw [List.length_map] at this; have := Hn4.out; omega)
      have Hwn4 := hid (show 16384 - (d4.inn.ready.length : Int) = wn by rw [Hin4.out]; exact Hwn.out)
      have HG := hid (rsegc_at base g d4 m F d4.out.n 17 (.slice none 0 0) [] 0 wn w5 HS5.out.inv (by rw [Hin4.out]; exact Hrl.out) Hwn4.out (Bs.nil _) rfl (by omega))
      clear htd hq hql
      go_upto_region 27 with (first
        | (go_at_call 68; (refine HG.out.mono ?_); rintro e w2 ⟨A2, cap2, rfl, hown, hb1⟩; have Hb2 := hid hb1; have Ho2 := hid hown; clear hown hb1)
        | ((with_reducible show wpList _ _ _ (Oper.mk (some 178) _ _ _ _ _ :: _) _ _); refine wpList_app _ rfl _ _ 90 rfl w.heap.size 51 sgzero 8 72 rgok (.slice Ao qs.length co) qs.length (sgRow qs) rfl (own_below (Hq.out.below Hb2.out).row (below_alloc _ _)) _ 1 [.int .i64 d4.src, .int .i64 d4.dst, .int .u32 (d4.out.n : Int), .int .u32 (d4.inn.r : Int), .int .i64 17, .int .i64 wn, .int .i64 0, .slice A2 0 cap2] rfl (rowS_lit 8 #[.int .i64 d4.src, .int .i64 d4.dst, .int .u32 (d4.out.n : Int), .int .u32 (d4.inn.r : Int), .int .i64 17, .int .i64 wn, .int .i64 0, .slice A2 0 cap2] 1 _ rfl (by simp) (by simp [maxLen])) (by simp [Value.oneCell']) (by have := Hn.out; omega) (by have := Hn.out; simp only [maxLen]; omega) (by have := HS5.out.fr.size; have := Hb2.out.size; simp; omega) ?_; intro v9 w9 hown9 hg9 hat9; have Hown9 := hid hown9; have Hg9 := hid hg9; clear hown9 hg9 hat9))
      have HS6 := hid (ROutAt.one (s := tSegment d4 d4.out.n 17 []) (vs := .slice A2 0 cap2) (by rw [Hql.out]; exact HS5.out) Hq.out (below_alloc' Hb2.out (.cells #[.int .i64 d4.src, .int .i64 d4.dst, .int .u32 (d4.out.n : Int), .int .u32 (d4.inn.r : Int), .int .i64 17, .int .i64 wn, .int .i64 0, .slice A2 0 cap2] 51)) (own_below (Ho2.out.mono HS5.out.fr.size) (below_alloc _ _)) (by show World.ownsRow _ _ _ _ _ _ (_ ++ [_, _, _, _, _, .int .i64 (16384 - (d4.inn.ready.length : Int)), _, _]); rw [Hwn4.out]; exact Hown9.out) Hg9.out)
      have c5 : w9.cell? ⟨g, 5, none⟩ = some (.int .u32 (d4.out.n : Int)) := HS6.out.inv.c5 rfl
      obtain ⟨x14, c14⟩ := HS6.out.inv.has 14 (by decide)
      obtain ⟨x2, c2⟩ := HS6.out.inv.has 2 (by decide)
      have z5 := HS6.out.inv.fz 5
      have z14 := HS6.out.inv.fz 14
      have z2 := HS6.out.inv.fz 2
      go_wp2_with fail
      go_meet
      case rel =>
        refine ⟨_, rfl, ?_⟩
        rw [He.out, ← Hql.out]
        have g1 := HS6.out.to (HS6.out.inv.n_ n1) (HS6.out.inv.fset 5 _)
        have g2 := g1.to (g1.inv.fin_ true) (g1.inv.fset 14 _)
        exact g2.to (g2.inv.st_ 4 (by decide) (by show d4.state ≠ 5; rw [H3.out]; decide)) (g2.inv.fset 2 _)
  case rest =>
  obtain ⟨v5, hv5, hS5⟩ := hcut
  subst u3
  have HS6 := hid hS5
  have H55 := hid (show (tOutD d4).2.state ≠ 5 from by
    unfold tOutD
    split
    · show (4 : Int) ≠ 5; decide
    · rw [Hst4.out, ← Hst.out]; exact H5.out)
  obtain ⟨d5, hd5⟩ : ∃ x, (tOutD d4).2 = x := ⟨_, rfl⟩
  obtain ⟨l5, hl5⟩ : ∃ l, l4 ++ (tOutD d4).1 = l := ⟨_, rfl⟩
  have Hin5 := hid (show d5.inn = c.inn by rw [← hd5, HD.out.2.1]; exact Hin4.out)
  have Hr5 := hid (show tOut c = (l5 ++ tOutE d5 l5, { d5 with acks := false }) from by rw [Hr4.out, hd5, hl5])
  have Hn5 := hid (show l5.length ≤ 65540 by rw [← hl5, List.length_append]; have := Hn4.out; have := HD.out.2.2.1; omega)
  rw [hd5] at H55
  rw [hd5, hl5] at HS6
  clear hS5 hd5 hl5 HS5 HD Hr4 Htd Hen Hst4 Hleft
  generalize wc = w6 at *
  obtain ⟨ac, c18, hac⟩ : ∃ ac, w6.cell? ⟨g, 18, none⟩ = some (.bool ac) ∧ ac = d5.acks := by
    obtain ⟨own, owe, gv, lt, vi, vo, vs, h1, h2⟩ := HS6.out.inv
    exact ⟨owe, h1.tab.cell 18, h2.owe H55.out⟩
  have c5 : w6.cell? ⟨g, 5, none⟩ = some (.int .u32 (d5.out.n : Int)) := HS6.out.inv.c5 rfl
  have z18 := HS6.out.inv.fz 18
  obtain ⟨qs, hq, hql⟩ := HS6.out.own
  have Hq := hid hq
  have Hql := hid hql
  obtain ⟨_, Ao, co, rfl, _, _, _⟩ := RowN.of_own hq.row
  have Hac := hid hac
  clear hq hql hac
  go_step
  cases ac with
  | false =>
    go_wp2_with fail
    go_ret
    have e : tOutE d5 l5 = [] := by unfold tOutE; rw [if_neg (by rw [← Hac.out]; simp)]
    rw [Hr5.out, e, List.append_nil]
    exact (HS6.out.to (HS6.out.inv.owe_ false) (HS6.out.inv.fset 18 _)).post
  | true =>
    by_cases hz : qs.length = 0
    case neg =>
      have hzb : ((qs.length : Int) == 0) = false := beq_eq_false_iff_ne.2 (by omega)
      have Hz := hid hz
      go_wp2_with fail
      go_ret
      have e : tOutE d5 l5 = [] := by unfold tOutE; rw [if_neg (by intro h; have h2 := Hql.out; rw [h.2, List.map_eq_nil_iff] at h2; exact Hz.out (by rw [h2]; rfl))]
      rw [Hr5.out, e, List.append_nil]
      exact (HS6.out.to (HS6.out.inv.owe_ false) (HS6.out.inv.fset 18 _)).post
    case pos =>
      have hqn : qs = [] := List.eq_nil_of_length_eq_zero hz
      subst hqn
      have Hl5 := hid (show l5 = [] from Hql.out.symm)
      have Hwn5 := hid (show 16384 - (d5.inn.ready.length : Int) = wn by rw [Hin5.out]; exact Hwn.out)
      have HG := hid (rsegc_at base g d5 m F d5.out.n 16 (.slice none 0 0) [] 0 wn w6 HS6.out.inv (by rw [Hin5.out]; exact Hrl.out) Hwn5.out (Bs.nil _) rfl (by omega))
      clear hz
      go_upto_region 32 with (first
        | (go_at_call 68; (refine HG.out.mono ?_); rintro e w2 ⟨A2, cap2, rfl, hown, hb1⟩; have Hb2 := hid hb1; have Ho2 := hid hown; clear hown hb1)
        | ((with_reducible show wpList _ _ _ (Oper.mk (some 209) _ _ _ _ _ :: _) _ _); refine wpList_app _ rfl _ _ 90 rfl w.heap.size 51 sgzero 8 72 rgok (.slice Ao 0 co) 0 [] rfl (own_below (Hq.out.below Hb2.out).row (below_alloc _ _)) _ 1 [.int .i64 d5.src, .int .i64 d5.dst, .int .u32 (d5.out.n : Int), .int .u32 (d5.inn.r : Int), .int .i64 16, .int .i64 wn, .int .i64 0, .slice A2 0 cap2] rfl (rowS_lit 8 #[.int .i64 d5.src, .int .i64 d5.dst, .int .u32 (d5.out.n : Int), .int .u32 (d5.inn.r : Int), .int .i64 16, .int .i64 wn, .int .i64 0, .slice A2 0 cap2] 1 _ rfl (by simp) (by simp [maxLen])) (by simp [Value.oneCell']) (by omega) (by simp [maxLen]) (by have := HS6.out.fr.size; have := Hb2.out.size; simp; omega) ?_; intro v9 w9 hown9 hg9 hat9; obtain ⟨_, A9, c9', rfl, _, _, _⟩ := RowN.of_own hown9; have Hown9 := hid hown9; have Hg9 := hid hg9; clear hown9 hg9 hat9))
      have HS7 := hid (ROutAt.one (s := tSegment d5 d5.out.n 16 []) (vs := .slice A2 0 cap2) (by rw [Hql.out]; exact HS6.out) Hq.out (below_alloc' Hb2.out (.cells #[.int .i64 d5.src, .int .i64 d5.dst, .int .u32 (d5.out.n : Int), .int .u32 (d5.inn.r : Int), .int .i64 16, .int .i64 wn, .int .i64 0, .slice A2 0 cap2] 51)) (own_below (Ho2.out.mono HS6.out.fr.size) (below_alloc _ _)) (by show World.ownsRow _ _ _ _ _ _ (_ ++ [_, _, _, _, _, .int .i64 (16384 - (d5.inn.ready.length : Int)), _, _]); rw [Hwn5.out]; exact Hown9.out) Hg9.out)
      obtain ⟨x18, e18⟩ := HS7.out.inv.has 18 (by decide)
      have y18 := HS7.out.inv.fz 18
      clear c5 c18
      go_wp2_with fail
      go_ret
      have e : tOutE d5 l5 = [tSegment d5 d5.out.n 16 []] := by unfold tOutE; rw [if_pos ⟨Hac.out.symm, Hl5.out⟩]
      rw [Hr5.out, e, Hl5.out]
      exact (HS7.out.to (HS7.out.inv.owe_ false) (HS7.out.inv.fset 18 _)).post
end Go.Proofs.Ytahlcjkcdgahkaa
