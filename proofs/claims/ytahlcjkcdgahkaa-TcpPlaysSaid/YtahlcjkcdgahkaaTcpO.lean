/- Out. -/
import Derived.Test.YtahlcjkcdgahkaaTcpN
import Derived.Deep.CutBlock
import Derived.Outline
namespace Go.Proofs.Ytahlcjkcdgahkaa
open Go Go.RowKit
attribute [local go_sem ↓] Go.wp_at_zero Go.wp_at_succ
set_option maxRecDepth 100000

/-- while Out goes on: the connection, what goes out -/
structure OutAt (base g m : Nat) (F : Nat → Prop) (w : World) (v : Value) (c : TConn) (l : List TSeg) (wr : World) : Prop where
  inv : ConnInv wr base g c m F
  own : OwnSgL wr w.heap.size v l
  fr : Frame F w wr
  flt : ∀ k, F k → k < w.heap.size
section
variable {base g m : Nat} {F : Nat → Prop} {w : World} {v v' : Value} {c c' : TConn} {l l' : List TSeg} {wr w' : World}
theorem OutAt.keep (h : OutAt base g m F w v c l wr) (hb : Below wr.heap.size wr w') : OutAt base g m F w v c l w' := ⟨h.inv.keep hb, h.own.below hb, h.fr.trans (Below.frameF hb F) (fun _ _ h => h), h.flt⟩
theorem OutAt.drewN (h : OutAt base g m F w v c l wr) (q : Nat) : OutAt base g m F w v c l (wr.drewN q) := h.keep (below_drewN (Below.refl _ _) q)
theorem OutAt.set1 (h : OutAt base g m F w v c l wr) (i : Nat) (u : Value) (ht : ∀ vr gM vb, (c.cells vr (.map (some gM)) vb).set i u = c'.cells vr (.map (some gM)) vb) (h1 : c'.inn.ready = c.inn.ready) (h2 : c'.inn.early = c.inn.early) (h3 : c'.out.bytes = c.out.bytes) :
    OutAt base g m F w v c' l (wr.setCell ⟨g, i, none⟩ u) := by
  obtain ⟨vr, gM, vb, f, hi⟩ := h.inv
  have hg := grown_set wr g i u
  have hf : Frame F wr (wr.setCell ⟨g, i, none⟩ u) := Frame.one hg hi.fg
  exact ⟨⟨vr, gM, vb, f, hi.stored hg (by rw [← ht]; exact hi.tab.set_ i u) h1 h2 h3⟩, h.own.frame hf h.flt, h.fr.trans hf (fun _ _ h => h), h.flt⟩
theorem OutAt.post (h : OutAt base g m F w v c l wr) : SgsPost base g l c m F w (.returned v) wr := ⟨v, rfl, h.own, h.inv, h.fr⟩
/-- one segment is appended -/
theorem OutAt.one {w2 w9 : World} {s : TSeg} {vs : Value} {qs : List (TSeg × Value)} (h : OutAt base g m F w v c (qs.map Prod.fst) wr) (hq : OwnSgs wr w.heap.size v qs) (hb : Below wr.heap.size wr w2) (ho : OwnBs w2 w.heap.size 5 vs s.data) (hrow : w9.ownsRow w.heap.size 30 8 v' (qs.length + 1) (sgRow qs ++ s.cells vs)) (hg : w2.grownBy w9 v.ownBlock) :
    OutAt base g m F w v' c (qs.map Prod.fst ++ [s]) w9 := by
  have hz := h.fr.size
  have hq2 := hq.below hb
  have happ := OwnSgs.app (rs := [(s, vs)]) hq2 (fun p hp => by
    obtain rfl : p = _ := by simpa using hp
    exact ho) (by rw [sgRow_one]; exact hrow) hg
  have hb9 : Below w.heap.size wr w9 := (hb.mono hz).trans (grown_below hq2.row (by have := hb.size; omega) hg)
  obtain ⟨vr, gM, vb, f, hi⟩ := h.inv
  exact ⟨⟨vr, gM, vb, f, hi.sameF (fun k hk => hb9.block k (h.flt k hk)) hb9.size⟩, ⟨_, happ, by simp⟩, h.fr.tail hb9, h.flt⟩
theorem OutAt.many {w2 w9 : World} (h : OutAt base g m F w v c l wr) (hi : ConnInv w2 base g c' m F) (hf : Frame F wr w2) {qs : List (TSeg × Value)} (hq : OwnSgs w2 w.heap.size v qs) (hg : w2.grownBy w9 v.ownBlock) (ho : OwnSgL w9 w.heap.size v' l') : OutAt base g m F w v' c' l' w9 := by
  have hz : w.heap.size ≤ w2.heap.size := Nat.le_trans h.fr.size hf.size
  have hb9 : Below w.heap.size w2 w9 := grown_below hq.row hz hg
  obtain ⟨vr, gM, vb, f, hi⟩ := hi
  exact ⟨⟨vr, gM, vb, f, hi.sameF (fun k hk => hb9.block k (h.flt k hk)) hb9.size⟩, ho, (h.fr.trans hf (fun _ _ h => h)).tail hb9, h.flt⟩
end
theorem sgRow_one' (rs : List (TSeg × Value)) (w : World) (base : Nat) (v : Value) (h : OwnSgs w base v rs) : ∀ u ∈ sgRow rs, u.oneCell' = true := by
  intro u hu
  obtain ⟨q, hq, hu⟩ := List.mem_flatMap.1 hu
  obtain ⟨_, A, c, hv, _⟩ := (h.datas q hq).bs
  rw [hv] at hu
  simp [TSeg.cells] at hu
  rcases hu with rfl | rfl | rfl | rfl | rfl | rfl | rfl | rfl <;> rfl
set_option maxHeartbeats 8000000 in
theorem out_any (base g : Nat) (c : TConn) (m : Nat) (F : Nat → Prop) (w : World) (h : ConnInv w base g c m F) (hi : InOk c.inn) (ho : OutOk c) :
    Calls Try.prog 17 #[.pointer (some ⟨g, 0, none⟩)] w (SgsPost base g (tOut c).1 (tOut c).2 m F w) := by
  have S0 : OutAt base g m F w (.slice none 0 0) c [] w := ⟨h, OwnSgL.nil _ _, Frame.refl _ _, fun k hk => (h.lt k hk).2⟩
  have HS := hid S0
  obtain ⟨vr, gM, vb, f, hA⟩ := h
  have Hrl := hid hi.len
  obtain ⟨wn, hwn⟩ : ∃ x : Int, 16384 - (c.inn.ready.length : Int) = x := ⟨_, rfl⟩
  have Hwn := hid hwn
  have Hi := hid hi
  have Ho := hid ho
  have c23 : w.cell? ⟨g, 23, none⟩ = some (.bool c.off) := hA.tab.cell 23
  have c22 : w.cell? ⟨g, 22, none⟩ = some (.bool c.gave) := hA.tab.cell 22
  have c18 : w.cell? ⟨g, 18, none⟩ = some (.int .i64 c.state) := hA.tab.cell 18
  have c19 : w.cell? ⟨g, 19, none⟩ = some (.bool c.begin_) := hA.tab.cell 19
  have c6 : w.cell? ⟨g, 6, none⟩ = some (.int .u32 (c.out.u : Int)) := hA.tab.cell 6
  have z23 := hA.tab.frozen 23
  have HA := hid hA
  clear S0 hA hi ho hwn
  cases hof : c.off with
  | true =>
    rw [hof] at c23
    have Hr := hid (show tOut c = ([], c) by unfold tOut; rw [if_pos hof])
    clear hof
    go_enter Try.func17, Try.ntmps17
    go_wp2_with fail
    go_ret
    rw [Hr.out]
    exact HS.out.post
  | false =>
  rw [hof] at c23
  have Hof := hid hof
  clear hof
  cases hgv : c.gave with
  | true =>
    rw [hgv] at c22
    have Hr := hid (show tOut c = ([tSegment c c.out.n 20 []], { c with off := true }) by unfold tOut; rw [if_neg (by rw [Hof.out]; simp), if_pos hgv])
    clear hgv
    have hS1 := HS.out.set1 23 (.bool true) (c' := { c with off := true }) (fun _ _ _ => rfl) rfl rfl rfl
    have d7 : (w.setCell ⟨g, 23, none⟩ (.bool true)).cell? ⟨g, 7, none⟩ = some (.int .u32 (c.out.n : Int)) := by
      obtain ⟨_, _, _, _, hj⟩ := hS1.inv
      exact hj.tab.cell 7
    have HS1 := hid hS1
    have HG := hid (seg_at base g { c with off := true } m F c.out.n 20 (.slice none 0 0) [] 0 wn _ hS1.inv Hrl.out Hwn.out (Bs.nil _) rfl (by omega))
    clear hS1
    go_enter Try.func17, Try.ntmps17
    go_wp2_with (go_at_call 41; (refine HG.out.mono ?_); rintro e w2 ⟨A2, cap2, rfl, hown, hb1⟩; have Hb2 := hid hb1; have Ho2 := hid hown; clear hown hb1)
    go_ret
    rw [Hr.out, ← Hwn.out]
    have hz := HS1.out.fr.size
    have h1 := OwnSgs.one (s := tSegment { c with off := true } c.out.n 20 []) (Ho2.out.mono hz) (Nat.le_trans hz Hb2.out.size)
    have hk := HS1.out.keep (below_alloc' Hb2.out (.cells ((tSegment { c with off := true } c.out.n 20 []).cells (.slice A2 0 cap2)).toArray 30))
    exact ⟨_, rfl, ⟨_, h1, rfl⟩, hk.inv, hk.fr⟩
  | false =>
  rw [hgv] at c22
  have Hgv := hid hgv
  clear hgv
  have Hr := hid (show tOut c = tOut2 (tQuiet (tOutB c).2) (tOutA c ++ (tOutB c).1) by unfold tOut; rw [if_neg (by rw [Hof.out]; simp), if_neg (by rw [Hgv.out]; simp)])
  go_enter Try.func17, Try.ntmps17
  go_upto_region 7 with fail
  obtain ⟨tb, htb⟩ : ∃ b, ((c.state == 1) && c.begin_) = b := ⟨_, rfl⟩
  have Htb := hid htb
  clear htb
  go_cut [36] from 26 to 37 (fun s wx => s = .bool tb ∧ wx = w)
  case first =>
    have htb := Htb.out
    by_cases h1 : c.state = 1
    · have e : c.begin_ = tb := by rw [← htb, h1]; rfl
      rw [e] at c19
      rw [h1] at c18
      clear htb h1 e
      go_wp2_with fail
      go_meet
      case rel => exact ⟨rfl, rfl⟩
    · have hb : (c.state == 1) = false := by simpa using h1
      have e : tb = false := by rw [← htb, hb]; rfl
      subst e
      have Hb := hid hb
      clear htb
      go_wp2_with fail
      go_meet
      case rel => exact ⟨rfl, rfl⟩
  case rest =>
  obtain ⟨rfl, hww⟩ := hcut
  have hww := hww.symm
  subst hww
  go_step
  go_cut [3] from 37 to 48 (fun s wx => ∃ v, s = v ∧ OutAt base g m F w v c (tOutA c) wx)
  case first =>
    cases tb with
    | false =>
      have e := Htb.out
      have HA0 := hid (show tOutA c = [] by unfold tOutA; rw [if_neg (by intro h; simp [h.1, h.2] at e)])
      clear e
      go_wp2_with fail
      go_meet
      case rel => exact ⟨_, rfl, by rw [HA0.out]; exact HS.out⟩
    | true =>
      have e := Htb.out
      have HA1 := hid (show tOutA c = [{ tSegment c c.out.u 18 [] with mss := 1460 }] by unfold tOutA; rw [if_pos (by simpa using e)])
      have HG := hid (seg_at base g c m F c.out.u 18 (.slice none 0 0) [] 0 wn w HS.out.inv Hrl.out Hwn.out (Bs.nil _) rfl (by omega))
      clear e c23 c22 c18 c19
      go_wp2_with (first
        | (go_at_call 41; (refine HG.out.mono ?_); rintro e w2 ⟨A2, cap2, rfl, hown, hb1⟩; have Hb2 := hid hb1; have Ho2 := hid hown; clear hown hb1)
        | ((with_reducible show wpList _ _ _ (Oper.mk none (Op.store _ (Operand.tmp 4) _) _ _ _ _ :: _) _ _); refine wpList_storeBlk rfl _ _ _ rfl _ _ rfl rfl _ _ (Blk.new _ _ _) seginfo rfl rfl ?_; intro w5 hblk hg hsz; have Hk5 := hid (below_new_store hg); have Hg5 := hid hg; have HB5 := hid hblk; have b6 : w5.cell? ⟨w2.heap.size, 6, none⟩ = some (.int .i64 0) := hblk.cell 6; have z6 := hblk.frozen 6; clear hblk hg hsz)
        | ((with_reducible show wpList _ _ _ (Oper.mk (some 46) _ _ _ _ _ :: _) _ _); refine wpList_loadBlk rfl _ _ rfl _ rfl _ _ _ (HB5.out.set_ 6 _) Try.underlying30 seginfo ?_)
        | ((with_reducible show wpList _ _ _ (Oper.mk (some 48) _ _ _ _ _ :: _) _ _); refine wpList_app _ rfl _ _ 31 rfl w.heap.size 30 sgzero 8 72 sgok (.slice none 0 0) 0 [] rfl (World.ownsRow_nil _ _ _ _) _ 1 [.int .i64 c.src, .int .i64 c.dst, .int .u32 (c.out.u : Int), .int .u32 (c.inn.r : Int), .int .i64 18, .int .i64 wn, .int .i64 1460, .slice A2 0 cap2] rfl (rowS_lit 8 #[.int .i64 c.src, .int .i64 c.dst, .int .u32 (c.out.u : Int), .int .u32 (c.inn.r : Int), .int .i64 18, .int .i64 wn, .int .i64 1460, .slice A2 0 cap2] 1 _ rfl (by simp) (by simp [maxLen])) (by simp [Value.oneCell']) (by omega) (by simp [maxLen]) (by have := Hk5.out.size; have := Hb2.out.size; simp; omega) ?_; intro v9 w9 hown9 hg9 hat9; obtain ⟨_, A9, c9', rfl, _, _, _⟩ := RowN.of_own hown9; have Hown9 := hid hown9; have Hg9 := hid hg9; clear hown9 hg9 hat9))
      go_meet
      case rel =>
        have hb5 := Hb2.out.trans (Hk5.out.mono Hb2.out.size)
        have hgs := grown_set w5 w2.heap.size 6 (.int .i64 1460)
        have hb6 := below_alloc' (below_own hb5 hgs Hb2.out.size hb5.size) (.cells #[.int .i64 c.src, .int .i64 c.dst, .int .u32 (c.out.u : Int), .int .u32 (c.inn.r : Int), .int .i64 18, .int .i64 wn, .int .i64 1460, .slice A2 0 cap2] 30)
        have ho6 := (ownBs_store (Ho2.out.below Hk5.out) HB5.out (by decide) hgs)
        have h1 := OutAt.one (qs := []) (s := { tSegment c c.out.u 18 [] with mss := 1460 }) (vs := .slice A2 0 cap2) HS.out (OwnSgs.nil _ _) hb6 (own_below ho6 (below_alloc _ _)) (by show World.ownsRow _ _ _ _ _ _ (_ ++ [_, _, _, _, _, .int .i64 (16384 - (c.inn.ready.length : Int)), _, _]); rw [Hwn.out]; exact Hown9.out) Hg9.out
        refine ⟨_, rfl, ?_⟩
        rw [HA1.out]
        exact h1
  case rest =>
  obtain ⟨v1, rfl, hS1⟩ := hcut
  have HS1 := hid hS1
  have HlA := hid (show (tOutA c).length ≤ 1 by unfold tOutA; split <;> simp)
  obtain ⟨vr1, gM1, vb1, f1, hj⟩ := hS1.inv
  have c21 : wc.cell? ⟨g, 21, none⟩ = some (.bool c.again) := hj.tab.cell 21
  clear hS1 hj HS Htb c23 c22 c18 c19 c6 z23 HA
  generalize wc = w1 at *
  have HB := hid (tOutB_ok Ho.out)
  go_step
  go_upto_if 52 with fail
  go_cut [3] from 49 to 57 (fun s wx => ∃ v, s = v ∧ OutAt base g m F w v (tOutB c).2 (tOutA c ++ (tOutB c).1) wx)
  case first =>
    cases hag : c.again with
    | false =>
      have e : tOutB c = ([], c) := by unfold tOutB; rw [if_neg (by rw [hag]; simp)]
      have He := hid e
      rw [hag] at c21
      clear e hag
      go_wp2_with fail
      go_meet
      case rel => exact ⟨_, rfl, by rw [He.out, List.append_nil]; exact HS1.out⟩
    | true =>
      have e : tOutB c = tResent c := by unfold tOutB; rw [if_pos hag]
      have He := hid e
      rw [hag] at c21
      clear e hag
      have HRe := hid (resent_any base g c m F w1 HS1.out.inv Hi.out Ho.out)
      obtain ⟨qs, hq, hql⟩ := HS1.out.own
      have Hq := hid hq
      have Hql := hid hql
      obtain ⟨_, Ao, co, rfl, _, _, _⟩ := RowN.of_own hq.row
      have Hn := hid (show qs.length ≤ 1 by have := congrArg List.length hql; rw [List.length_map] at this; have := HlA.out; omega)
      clear hq hql
      go_wp2_with (first
        | (go_at_call 42; (refine HRe.out.mono ?_); rintro e w2 ⟨v2, rfl, ⟨rs, hown, hrl⟩, hinv, hfr⟩; have Hown2 := hid hown; have Hrl2 := hid hrl; have Hinv2 := hid hinv; have Hfr2 := hid hfr; have Hrn := hid (show rs.length ≤ 1 by have h1 := congrArg List.length hrl; rw [List.length_map] at h1; have := (tResent_ok Ho.out).2.2; omega); clear hown hrl hinv hfr)
        | ((with_reducible show wpList _ _ _ (Oper.mk (some 56) _ _ _ _ _ :: _) _ _); refine wpList_app _ rfl _ _ 31 rfl w.heap.size 30 sgzero 8 72 sgok (.slice Ao qs.length co) qs.length (sgRow qs) rfl (Hq.out.frame Hfr2.out HS1.out.flt).row v2 rs.length (sgRow rs) rfl (RowN.of_own Hown2.out.row) (sgRow_one' rs _ _ _ Hown2.out) (by have := Hn.out; have := Hrn.out; omega) (by have := Hn.out; have := Hrn.out; simp only [maxLen]; omega) (by have := HS1.out.fr.size; have := Hfr2.out.size; omega) ?_; intro v9 w9 hown9 hg9 hat9; have Hown9 := hid hown9; have Hg9 := hid hg9; clear hown9 hg9 hat9))
      go_meet
      case rel =>
        refine ⟨_, rfl, ?_⟩
        rw [He.out]
        have hz := HS1.out.fr.size
        have happ := OwnSgs.app (Hq.out.frame Hfr2.out HS1.out.flt) (fun p hp => (Hown2.out.datas p hp).mono hz) Hown9.out Hg9.out
        exact OutAt.many HS1.out Hinv2.out Hfr2.out (Hq.out.frame Hfr2.out HS1.out.flt) Hg9.out ⟨_, happ, by rw [List.map_append, Hql.out, Hrl2.out]⟩
  case rest =>
  obtain ⟨v2, hv2, hS2⟩ := hcut
  subst u3
  have HS2 := hid hS2
  obtain ⟨vr2, gM2, vb2, f2, hj⟩ := hS2.inv
  obtain ⟨c2, hc2⟩ : ∃ c2, (tOutB c).2 = c2 := ⟨_, rfl⟩
  rw [hc2] at hj
  have c19 : wc.cell? ⟨g, 19, none⟩ = some (.bool c2.begin_) := hj.tab.cell 19
  have c21 : wc.cell? ⟨g, 21, none⟩ = some (.bool c2.again) := hj.tab.cell 21
  have z19 := hj.tab.frozen 19
  have z21 := hj.tab.frozen 21
  have Hc2 := hid hc2
  clear hS2 hj hc2 HS1
  go_step
  go_upto_region 14 with fail
  have HS3 := hid (show OutAt base g m F w v2 (tQuiet c2) (tOutA c ++ (tOutB c).1) ((wc.setCell ⟨g, 19, none⟩ (.bool false)).setCell ⟨g, 21, none⟩ (.bool false)) from by
    have h1 := HS2.out
    rw [Hc2.out] at h1
    exact (h1.set1 19 (.bool false) (c' := { c2 with begin_ := false }) (fun _ _ _ => rfl) rfl rfl rfl).set1 21 (.bool false) (c' := tQuiet c2) (fun _ _ _ => rfl) rfl rfl rfl)
  have Hok3 := hid (show OutOk (tQuiet c2) from by have := quiet_ok HB.out.1; rw [Hc2.out] at this; exact this)
  have Hin3 := hid (show (tQuiet c2).inn = c.inn from by show c2.inn = c.inn; rw [← Hc2.out]; exact HB.out.2.1.inn)
  have Hr3 := hid (show tOut c = tOut2 (tQuiet c2) (tOutA c ++ (tOutB c).1) from by rw [Hr.out, Hc2.out])
  obtain ⟨l3, hl3⟩ : ∃ l, tOutA c ++ (tOutB c).1 = l := ⟨_, rfl⟩
  have Hl3 := hid hl3
  have Hn3 := hid (show l3.length ≤ 2 by rw [← hl3, List.length_append]; have := HlA.out; have := HB.out.2.2; omega)
  rw [hl3] at HS3 Hr3
  clear HS2 c19 c21 z19 z21 hl3 Hc2
  generalize (wc.setCell ⟨g, 19, none⟩ (.bool false)).setCell ⟨g, 21, none⟩ (.bool false) = w3 at *
  generalize tQuiet c2 = c3 at *
  obtain ⟨vr3, gM3, vb3, f3, hj⟩ := HS3.out.inv
  obtain ⟨st, hst⟩ : ∃ st, c3.state = st := ⟨_, rfl⟩
  have Hst := hid hst
  have c18 : w3.cell? ⟨g, 18, none⟩ = some (.int .i64 st) := by rw [← hst]; exact hj.tab.cell 18
  clear hj hst
  go_upto_block 1 with fail
  have HFr := hid (fresh_any base g c3 m F w3 HS3.out.inv (by rw [Hin3.out]; exact Hi.out) Hok3.out)
  have HC := hid (tOutC_ok Hok3.out)
  go_cut [3] from 66 to 74 (fun s wx => ∃ v, s = v ∧ OutAt base g m F w v (tOutC c3).2 (l3 ++ (tOutC c3).1) wx)
  case first =>
    obtain ⟨qs, hq, hql⟩ := HS3.out.own
    have Hq := hid hq
    have Hql := hid hql
    obtain ⟨_, Ao, co, rfl, _, _, _⟩ := RowN.of_own hq.row
    have Hn := hid (show qs.length ≤ 2 by have := congrArg List.length hql; rw [List.length_map] at this; have := Hn3.out; omega)
    clear hq hql
    by_cases h23 : st = 2 ∨ st = 3
    · have e : tOutC c3 = tFresh c3 := by unfold tOutC; rw [if_pos (by rw [Hst.out]; exact h23)]
      have He := hid e
      have HeN := hid (show (tFresh c3).1.length ≤ 65536 by rw [← e]; exact HC.out.2.2)
      clear e
      rcases h23 with rfl | rfl
      all_goals
        go_wp2_with (first
          | (go_at_call 43; (refine HFr.out.mono ?_); rintro e w4 ⟨v4, rfl, ⟨rs, hown, hrl⟩, hinv, hfr⟩; have Hown2 := hid hown; have Hrl2 := hid hrl; have Hinv2 := hid hinv; have Hfr2 := hid hfr; have Hrn := hid (show rs.length ≤ 65536 by have h1 := congrArg List.length hrl; rw [List.length_map] at h1; have := HeN.out; omega); clear hown hrl hinv hfr)
          | ((with_reducible show wpList _ _ _ (Oper.mk (some 74) _ _ _ _ _ :: _) _ _); refine wpList_app _ rfl _ _ 31 rfl w.heap.size 30 sgzero 8 72 sgok (.slice Ao qs.length co) qs.length (sgRow qs) rfl (Hq.out.frame Hfr2.out HS3.out.flt).row v4 rs.length (sgRow rs) rfl (RowN.of_own Hown2.out.row) (sgRow_one' rs _ _ _ Hown2.out) (by have := Hn.out; have := Hrn.out; omega) (by have := Hn.out; have := Hrn.out; simp only [maxLen]; omega) (by have := HS3.out.fr.size; have := Hfr2.out.size; omega) ?_; intro v9 w9 hown9 hg9 hat9; have Hown9 := hid hown9; have Hg9 := hid hg9; clear hown9 hg9 hat9))
        go_meet
        case rel =>
          refine ⟨_, rfl, ?_⟩
          rw [He.out]
          have hz := HS3.out.fr.size
          have happ := OwnSgs.app (Hq.out.frame Hfr2.out HS3.out.flt) (fun p hp => (Hown2.out.datas p hp).mono hz) Hown9.out Hg9.out
          exact OutAt.many HS3.out Hinv2.out Hfr2.out (Hq.out.frame Hfr2.out HS3.out.flt) Hg9.out ⟨_, happ, by rw [List.map_append, Hql.out, Hrl2.out]⟩
    · have e : tOutC c3 = ([], c3) := by unfold tOutC; rw [if_neg (by rw [Hst.out]; exact h23)]
      have He := hid e
      have h2 : (st == 2) = false := by simp; omega
      have h3 : (st == 3) = false := by simp; omega
      clear e h23
      go_wp2_with fail
      go_meet
      case rel => exact ⟨_, rfl, by rw [He.out, List.append_nil]; exact HS3.out⟩
  case rest =>
  obtain ⟨v4, hv4, hS4⟩ := hcut
  subst u3
  have HS4 := hid hS4
  obtain ⟨c4, hc4⟩ : ∃ c4, (tOutC c3).2 = c4 := ⟨_, rfl⟩
  have Hr4 := hid (show tOut c = (l3 ++ (tOutC c3).1 ++ (tOutD c4).1 ++ tOutE (tOutD c4).2 (l3 ++ (tOutC c3).1 ++ (tOutD c4).1), { (tOutD c4).2 with acks := false }) from by rw [Hr3.out]; unfold tOut2; simp only [hc4])
  have Hok4 := hid (show OutOk c4 by rw [← hc4]; exact HC.out.1)
  have Hin4 := hid (show c4.inn = c.inn by rw [← hc4, HC.out.2.1.inn]; exact Hin3.out)
  rw [hc4] at HS4
  obtain ⟨l4, hl4⟩ : ∃ l, l3 ++ (tOutC c3).1 = l := ⟨_, rfl⟩
  have Hn4 := hid (show l4.length ≤ 65538 by rw [← hl4, List.length_append]; have := Hn3.out; have := HC.out.2.2; omega)
  rw [hl4] at HS4 Hr4
  clear hS4 hc4 hl4 HS3 HFr HC Hr3 c18
  generalize wc = w4 at *
  obtain ⟨vr4, gM4, vb4, f4, hj⟩ := HS4.out.inv
  obtain ⟨n, hn⟩ : ∃ n, c4.out.bytes.length = n := ⟨_, rfl⟩
  obtain ⟨A, cap, rfl⟩ : ∃ A c2, vb4 = .slice A n c2 := by rw [← hn]; obtain ⟨_, A, c2, rfl, _⟩ := hj.bytes.rowN; exact ⟨A, c2, rfl⟩
  obtain ⟨st4, hst4⟩ : ∃ st, c4.state = st := ⟨_, rfl⟩
  obtain ⟨en, hen⟩ : ∃ st, c4.out.ended = st := ⟨_, rfl⟩
  obtain ⟨lf, hlf⟩ : ∃ st, c4.out.left = st := ⟨_, rfl⟩
  have c18 : w4.cell? ⟨g, 18, none⟩ = some (.int .i64 st4) := by rw [← hst4]; exact hj.tab.cell 18
  have c14 : w4.cell? ⟨g, 14, none⟩ = some (.bool en) := by rw [← hen]; exact hj.tab.cell 14
  have c7 : w4.cell? ⟨g, 7, none⟩ = some (.int .u32 (c4.out.n : Int)) := hj.tab.cell 7
  have c8 : w4.cell? ⟨g, 8, none⟩ = some (.int .u32 (c4.out.base : Int)) := hj.tab.cell 8
  have c9 : w4.cell? ⟨g, 9, none⟩ = some (.slice A n cap) := hj.tab.cell 9
  have c15 : w4.cell? ⟨g, 15, none⟩ = some (.bool c4.out.fin) := hj.tab.cell 15
  have hl := left_at g c4.out A n cap w4 Hok4.out.n Hok4.out.base hn (by have := Hok4.out.len; omega) c7 c8 c9 c15
  rw [hlf] at hl
  have HL := hid hl
  have Hst4 := hid hst4
  have Hen := hid hen
  have Hlf := hid hlf
  obtain ⟨td, htd⟩ : ∃ b, ((st4 == 3) && (en && (lf == 0))) = b := ⟨_, rfl⟩
  have Htd := hid htd
  clear hl hn hj htd hst4 hen hlf
  go_step
  go_upto_region 18 with fail
  go_cut [93] from 75 to 94 (fun s wx => s = .bool td ∧ ∃ q, wx = w4.drewN q)
  case first =>
    have htd := Htd.out
    by_cases h3 : st4 = 3
    · subst h3
      cases en with
      | false =>
        have e : td = false := by rw [← htd]; rfl
        subst e
        clear htd
        go_wp2_with fail
        go_meet
        case rel => exact ⟨rfl, 0, rfl⟩
      | true =>
        have e : (lf == 0) = td := by rw [← htd]; rfl
        have He := hid e
        clear htd e
        go_wp2_with (go_at_call 44; refine HL.out.mono ?_; rintro e w' ⟨rfl, q0, rfl⟩)
        go_meet
        case rel => exact ⟨congrArg Value.bool He.out, q0, rfl⟩
    · have h3b : (st4 == 3) = false := by simpa using h3
      have e : td = false := by rw [← htd, h3b]; rfl
      subst e
      clear htd h3
      go_wp2_with fail
      go_meet
      case rel => exact ⟨rfl, 0, rfl⟩
  case rest =>
  obtain ⟨h93, q4, hwq⟩ := hcut
  subst u93
  subst hwq
  have HS5 := hid (HS4.out.drewN q4)
  clear HS4 HL c18 c14 c7 c8 c9 c15
  generalize w4.drewN q4 = w5 at *
  have HD := hid (tOutD_ok Hok4.out)
  obtain ⟨n1, hn1⟩ : ∃ x, (c4.out.n + 1) % 4294967296 = x := ⟨_, rfl⟩
  have hn1I : ((c4.out.n : Int) + 1) % 4294967296 = (n1 : Int) := by omega
  have Hn1 := hid hn1
  clear hn1
  go_step
  go_cut [3] from 93 to 119 (fun s wx => ∃ v, s = v ∧ OutAt base g m F w v (tOutD c4).2 (l4 ++ (tOutD c4).1) wx)
  case first =>
    cases td with
    | false =>
      have e : tOutD c4 = ([], c4) := by
        have htd := Htd.out
        unfold tOutD
        rw [if_neg (by
          intro h
          rw [Hst4.out, Hen.out, Hlf.out] at h
          rw [h.1, h.2.1, h.2.2] at htd
          cases htd)]
      have He := hid e
      clear e
      go_wp2_with fail
      go_meet
      case rel => exact ⟨_, rfl, by rw [He.out, List.append_nil]; exact HS5.out⟩
    | true =>
      have e : tOutD c4 = ([tSegment c4 c4.out.n 17 []], { c4 with out := { c4.out with n := n1, fin := true }, state := 4 }) := by
        have htd := Htd.out
        simp only [Bool.and_eq_true, beq_iff_eq] at htd
        unfold tOutD
        rw [if_pos ⟨by rw [Hst4.out]; exact htd.1, by rw [Hen.out]; exact htd.2.1, by rw [Hlf.out]; exact htd.2.2⟩, Hn1.out]
      have He := hid e
      obtain ⟨vr5, gM5, vb5, f5, hj⟩ := HS5.out.inv
      have c7 : w5.cell? ⟨g, 7, none⟩ = some (.int .u32 (c4.out.n : Int)) := hj.tab.cell 7
      obtain ⟨qs, hq, hql⟩ := HS5.out.own
      have Hq := hid hq
      have Hql := hid hql
      obtain ⟨_, Ao, co, rfl, _, _, _⟩ := RowN.of_own hq.row
      have Hn := hid (show qs.length ≤ 65538 by have := congrArg List.length hql; rw [List.length_map] at this; have := Hn4.out; omega)
      have Hwn4 := hid (show 16384 - (c4.inn.ready.length : Int) = wn by rw [Hin4.out]; exact Hwn.out)
      have HG := hid (seg_at base g c4 m F c4.out.n 17 (.slice none 0 0) [] 0 wn w5 HS5.out.inv (by rw [Hin4.out]; exact Hrl.out) Hwn4.out (Bs.nil _) rfl (by omega))
      clear e hq hql hj
      go_upto_region 20 with (first
        | (go_at_call 41; (refine HG.out.mono ?_); rintro e w2 ⟨A2, cap2, rfl, hown, hb1⟩; have Hb2 := hid hb1; have Ho2 := hid hown; clear hown hb1)
        | ((with_reducible show wpList _ _ _ (Oper.mk (some 103) _ _ _ _ _ :: _) _ _); refine wpList_app _ rfl _ _ 31 rfl w.heap.size 30 sgzero 8 72 sgok (.slice Ao qs.length co) qs.length (sgRow qs) rfl (own_below (Hq.out.below Hb2.out).row (below_alloc _ _)) _ 1 [.int .i64 c4.src, .int .i64 c4.dst, .int .u32 (c4.out.n : Int), .int .u32 (c4.inn.r : Int), .int .i64 17, .int .i64 wn, .int .i64 0, .slice A2 0 cap2] rfl (rowS_lit 8 #[.int .i64 c4.src, .int .i64 c4.dst, .int .u32 (c4.out.n : Int), .int .u32 (c4.inn.r : Int), .int .i64 17, .int .i64 wn, .int .i64 0, .slice A2 0 cap2] 1 _ rfl (by simp) (by simp [maxLen])) (by simp [Value.oneCell']) (by have := Hn.out; omega) (by have := Hn.out; simp only [maxLen]; omega) (by have := HS5.out.fr.size; have := Hb2.out.size; simp; omega) ?_; intro v9 w9 hown9 hg9 hat9; have Hown9 := hid hown9; have Hg9 := hid hg9; clear hown9 hg9 hat9))
      have HS6 := hid (OutAt.one (s := tSegment c4 c4.out.n 17 []) (vs := .slice A2 0 cap2) (by rw [Hql.out]; exact HS5.out) Hq.out (below_alloc' Hb2.out (.cells #[.int .i64 c4.src, .int .i64 c4.dst, .int .u32 (c4.out.n : Int), .int .u32 (c4.inn.r : Int), .int .i64 17, .int .i64 wn, .int .i64 0, .slice A2 0 cap2] 30)) (own_below (Ho2.out.mono HS5.out.fr.size) (below_alloc _ _)) (by show World.ownsRow _ _ _ _ _ _ (_ ++ [_, _, _, _, _, .int .i64 (16384 - (c4.inn.ready.length : Int)), _, _]); rw [Hwn4.out]; exact Hown9.out) Hg9.out)
      obtain ⟨vr6, gM6, vb6, f6, hj⟩ := HS6.out.inv
      have d7 : w9.cell? ⟨g, 7, none⟩ = some (.int .u32 (c4.out.n : Int)) := hj.tab.cell 7
      have d15 : w9.cell? ⟨g, 15, none⟩ = some (.bool c4.out.fin) := hj.tab.cell 15
      have d18 : w9.cell? ⟨g, 18, none⟩ = some (.int .i64 c4.state) := hj.tab.cell 18
      have z7 := hj.tab.frozen 7
      have z15 := hj.tab.frozen 15
      have z18 := hj.tab.frozen 18
      clear hj c7
      go_wp2_with fail
      go_meet
      case rel =>
        refine ⟨_, rfl, ?_⟩
        rw [He.out, ← Hql.out]
        exact ((HS6.out.set1 7 (.int .u32 (n1 : Int)) (c' := { c4 with out := { c4.out with n := n1 } }) (fun _ _ _ => rfl) rfl rfl rfl).set1 15 (.bool true) (c' := { c4 with out := { c4.out with n := n1, fin := true } }) (fun _ _ _ => rfl) rfl rfl rfl).set1 18 (.int .i64 4) (c' := { c4 with out := { c4.out with n := n1, fin := true }, state := 4 }) (fun _ _ _ => rfl) rfl rfl rfl
  case rest =>
  obtain ⟨v5, hv5, hS5⟩ := hcut
  subst u3
  have HS6 := hid hS5
  obtain ⟨c5, hc5⟩ : ∃ c5, (tOutD c4).2 = c5 := ⟨_, rfl⟩
  obtain ⟨l5, hl5⟩ : ∃ l, l4 ++ (tOutD c4).1 = l := ⟨_, rfl⟩
  have Hok5 := hid (show OutOk c5 by rw [← hc5]; exact HD.out.1)
  have Hin5 := hid (show c5.inn = c.inn by rw [← hc5, HD.out.2.1]; exact Hin4.out)
  have Hr5 := hid (show tOut c = (l5 ++ tOutE c5 l5, { c5 with acks := false }) from by rw [Hr4.out, hc5, hl5])
  have Hn5 := hid (show l5.length ≤ 65540 by rw [← hl5, List.length_append]; have := Hn4.out; have := HD.out.2.2.1; omega)
  rw [hc5, hl5] at HS6
  clear hS5 hc5 hl5 HS5 HD Hr4 Htd Hlf Hen Hst4
  generalize wc = w6 at *
  obtain ⟨vr6, gM6, vb6, f6, hj⟩ := HS6.out.inv
  obtain ⟨ac, hac⟩ : ∃ st, c5.acks = st := ⟨_, rfl⟩
  have c20 : w6.cell? ⟨g, 20, none⟩ = some (.bool ac) := by rw [← hac]; exact hj.tab.cell 20
  have c7 : w6.cell? ⟨g, 7, none⟩ = some (.int .u32 (c5.out.n : Int)) := hj.tab.cell 7
  have z20 := hj.tab.frozen 20
  obtain ⟨qs, hq, hql⟩ := HS6.out.own
  have Hq := hid hq
  have Hql := hid hql
  obtain ⟨_, Ao, co, rfl, _, _, _⟩ := RowN.of_own hq.row
  have Hac := hid hac
  clear hq hql hj hac
  go_step
  cases ac with
  | false =>
    go_wp2_with fail
    go_ret
    have e : tOutE c5 l5 = [] := by unfold tOutE; rw [if_neg (by rw [Hac.out]; simp)]
    rw [Hr5.out, e, List.append_nil]
    exact (HS6.out.set1 20 (.bool false) (c' := { c5 with acks := false }) (fun _ _ _ => rfl) rfl rfl rfl).post
  | true =>
    by_cases hz : qs.length = 0
    case neg =>
      have hzb : ((qs.length : Int) == 0) = false := beq_eq_false_iff_ne.2 (by omega)
      have Hz := hid hz
      go_wp2_with fail
      go_ret
      have e : tOutE c5 l5 = [] := by unfold tOutE; rw [if_neg (by intro h; have h2 := Hql.out; rw [h.2, List.map_eq_nil_iff] at h2; exact Hz.out (by rw [h2]; rfl))]
      rw [Hr5.out, e, List.append_nil]
      exact (HS6.out.set1 20 (.bool false) (c' := { c5 with acks := false }) (fun _ _ _ => rfl) rfl rfl rfl).post
    case pos =>
      have hqn : qs = [] := List.eq_nil_of_length_eq_zero hz
      subst hqn
      have Hl5 := hid (show l5 = [] from Hql.out.symm)
      have Hwn5 := hid (show 16384 - (c5.inn.ready.length : Int) = wn by rw [Hin5.out]; exact Hwn.out)
      have HG := hid (seg_at base g c5 m F c5.out.n 16 (.slice none 0 0) [] 0 wn w6 HS6.out.inv (by rw [Hin5.out]; exact Hrl.out) Hwn5.out (Bs.nil _) rfl (by omega))
      clear hz
      go_upto_region 25 with (first
        | (go_at_call 41; (refine HG.out.mono ?_); rintro e w2 ⟨A2, cap2, rfl, hown, hb1⟩; have Hb2 := hid hb1; have Ho2 := hid hown; clear hown hb1)
        | ((with_reducible show wpList _ _ _ (Oper.mk (some 138) _ _ _ _ _ :: _) _ _); refine wpList_app _ rfl _ _ 31 rfl w.heap.size 30 sgzero 8 72 sgok (.slice Ao 0 co) 0 [] rfl (own_below (Hq.out.below Hb2.out).row (below_alloc _ _)) _ 1 [.int .i64 c5.src, .int .i64 c5.dst, .int .u32 (c5.out.n : Int), .int .u32 (c5.inn.r : Int), .int .i64 16, .int .i64 wn, .int .i64 0, .slice A2 0 cap2] rfl (rowS_lit 8 #[.int .i64 c5.src, .int .i64 c5.dst, .int .u32 (c5.out.n : Int), .int .u32 (c5.inn.r : Int), .int .i64 16, .int .i64 wn, .int .i64 0, .slice A2 0 cap2] 1 _ rfl (by simp) (by simp [maxLen])) (by simp [Value.oneCell']) (by omega) (by simp [maxLen]) (by have := HS6.out.fr.size; have := Hb2.out.size; simp; omega) ?_; intro v9 w9 hown9 hg9 hat9; obtain ⟨_, A9, c9', rfl, _, _, _⟩ := RowN.of_own hown9; have Hown9 := hid hown9; have Hg9 := hid hg9; clear hown9 hg9 hat9))
      have HS7 := hid (OutAt.one (s := tSegment c5 c5.out.n 16 []) (vs := .slice A2 0 cap2) (by rw [Hql.out]; exact HS6.out) Hq.out (below_alloc' Hb2.out (.cells #[.int .i64 c5.src, .int .i64 c5.dst, .int .u32 (c5.out.n : Int), .int .u32 (c5.inn.r : Int), .int .i64 16, .int .i64 wn, .int .i64 0, .slice A2 0 cap2] 30)) (own_below (Ho2.out.mono HS6.out.fr.size) (below_alloc _ _)) (by show World.ownsRow _ _ _ _ _ _ (_ ++ [_, _, _, _, _, .int .i64 (16384 - (c5.inn.ready.length : Int)), _, _]); rw [Hwn5.out]; exact Hown9.out) Hg9.out)
      obtain ⟨vr7, gM7, vb7, f7, hj⟩ := HS7.out.inv
      have d20 : w9.cell? ⟨g, 20, none⟩ = some (.bool c5.acks) := hj.tab.cell 20
      have y20 := hj.tab.frozen 20
      clear hj c7 c20
      go_wp2_with fail
      go_ret
      have e : tOutE c5 l5 = [tSegment c5 c5.out.n 16 []] := by unfold tOutE; rw [if_pos ⟨Hac.out, Hl5.out⟩]
      rw [Hr5.out, e, Hl5.out]
      exact (HS7.out.set1 20 (.bool false) (c' := { c5 with acks := false }) (fun _ _ _ => rfl) rfl rfl rfl).post
end Go.Proofs.Ytahlcjkcdgahkaa
