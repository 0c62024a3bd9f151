/- What is sent for the first time. -/
import Derived.Test.YtahlcjkcdgahkaaTcpL
namespace Go.Proofs.Ytahlcjkcdgahkaa
open Go Go.RowKit
attribute [local go_sem ↓] Go.wp_at_zero Go.wp_at_succ
set_option maxRecDepth 100000

/-- q bytes more are sent -/
def tSentMore (c : TConn) (q : Nat) : TConn := { c with out := { c.out with n := (c.out.n + q) % 4294967296 } }
theorem sentMore_ok {c : TConn} (h : OutOk c) {q : Nat} (h1 : (q : Int) ≤ c.out.left) : OutOk (tSentMore c q) ∧ (tSentMore c q).out.sent = c.out.sent + q := by
  have hf : c.out.fin = true → q = 0 := fun e => by have := h.all e; unfold TOut.left at h1; omega
  have hm := mSub_n (o := c.out)
  have a := h.sent0
  have b := h.sent1
  have d := h.len
  have e1 := h.n
  have e2 := h.base
  have e3 := h.u
  have e4 := h.nu
  unfold TOut.left at h1
  have hmb : mSub (c.out.n + q) c.out.base = mSub c.out.n c.out.base + q := by
    unfold mSub at *
    split at hm <;> omega
  have hmod : ∀ x y : Nat, y < 4294967296 → mSub (x % 4294967296) y = mSub x y := by intro x y hy; unfold mSub; omega
  have hs : (tSentMore c q).out.sent = c.out.sent + q := by
    unfold tSentMore TOut.sent
    simp only
    rw [hmod _ _ e2, hmb]
    push_cast
    omega
  refine ⟨⟨h.u, Nat.mod_lt _ (by decide), h.base, h.len, by rw [hs]; omega, ?_, ?_, ?_, h.fin, h.m0, h.m1, h.w0, h.w1, h.clock0, h.clock1, h.tries0, h.tries1, h.tries5, h.st⟩, hs⟩
  · rw [hs]
    show _ ≤ (c.out.bytes.length : Int)
    omega
  · rw [hs]
    show (mSub ((c.out.n + q) % 4294967296) c.out.u : Int) ≤ c.out.sent + q + 1 + (if c.out.fin then 1 else 0)
    rw [hmod _ _ e3]
    have : mSub (c.out.n + q) c.out.u ≤ mSub c.out.n c.out.u + q := by unfold mSub; omega
    omega
  · intro e
    rw [hs, hf e, h.all e]
    show _ = (c.out.bytes.length : Int)
    simp
theorem tFreshN_no {c : TConn} (h : ¬ (c.out.left > 0 ∧ c.room > 0)) (k : Nat) : tFreshN k c = ([], c) := by
  cases k with
  | zero => rfl
  | succ k => rw [tFreshN, if_neg h]
theorem tFreshN_yes {c : TConn} {q : Nat} (h : c.out.left > 0) (hq : c.room = (q : Int)) (h0 : 0 < q) (k : Nat) :
    tFreshN (k + 1) c = (tSegment c c.out.n (if (q : Int) = c.out.left then 24 else 16) ((c.out.bytes.drop c.out.sent.toNat).take q) :: (tFreshN k (tSentMore c q)).1, (tFreshN k (tSentMore c q)).2) := by
  rw [tFreshN, if_pos ⟨h, by rw [hq]; omega⟩, hq]
  rfl
/-- where the sending stands -/
structure FreshAt (base g : Nat) (c : TConn) (m : Nat) (F : Nat → Prop) (w : World) (gk : Nat) (v : Value) (c' : TConn) (qs : List (TSeg × Value)) (wr : World) : Prop where
  inv : ConnInv wr base g c' m F
  ok : OutOk c'
  inn : c'.inn = c.inn
  few : c'.out.left ≤ (gk : Int)
  own : OwnSgs wr w.heap.size v qs
  fr : Frame F w wr
  l : qs.map Prod.fst ++ (tFreshN gk c').1 = (tFresh c).1
  c : (tFreshN gk c').2 = (tFresh c).2
  many : qs.length + gk ≤ 65536
theorem Frame.tail {F : Nat → Prop} {w w1 w2 : World} (h : Frame F w w1) (hb : Below w.heap.size w1 w2) : Frame F w w2 :=
  ⟨hb.os.trans h.os, hb.tape.trans h.tape, hb.output.trans h.output, Nat.le_trans h.size hb.size, fun k hk hn => (hb.block k hk).trans (h.block k hk hn)⟩
theorem OwnSgs.drewN {w : World} {base : Nat} {v : Value} {qs : List (TSeg × Value)} (h : OwnSgs w base v qs) (q : Nat) : OwnSgs (w.drewN q) base v qs := h.below (below_drewN (Below.refl _ _) q)
theorem FreshAt.drewN {base g : Nat} {c : TConn} {m : Nat} {F : Nat → Prop} {w : World} {gk : Nat} {v : Value} {c' : TConn} {qs : List (TSeg × Value)} {wr : World} (h : FreshAt base g c m F w gk v c' qs wr) (q : Nat) : FreshAt base g c m F w gk v c' qs (wr.drewN q) :=
  ⟨h.inv.keep (below_drewN (Below.refl _ _) q), h.ok, h.inn, h.few, h.own.drewN q, h.fr.trans (Below.frameF (below_drewN (Below.refl _ _) q) F) (fun _ _ h => h), h.l, h.c, h.many⟩
set_option maxHeartbeats 8000000 in
theorem fresh_any (base g : Nat) (c : TConn) (m : Nat) (F : Nat → Prop) (w : World) (h : ConnInv w base g c m F) (hi : InOk c.inn) (ho : OutOk c) :
    Calls Try.prog 43 #[.pointer (some ⟨g, 0, none⟩)] w (SgsPost base g (tFresh c).1 (tFresh c).2 m F w) := by
  have hl0 : 0 ≤ c.out.left := by have := ho.sent1; unfold TOut.left; omega
  have S0 : FreshAt base g c m F w c.out.left.toNat (.slice none 0 0) c [] w := ⟨h, ho, rfl, by omega, OwnSgs.nil _ _, Frame.refl _ _, rfl, rfl, by have := ho.sent0; have := ho.len; unfold TOut.left; simp; omega⟩
  have S0 := hid S0
  have Hflt := hid (fun k (hk : F k) => (h.lt k hk).2)
  have Hrl := hid hi.len
  obtain ⟨wn, hwn⟩ : ∃ x : Int, 16384 - (c.inn.ready.length : Int) = x := ⟨_, rfl⟩
  have Hwn := hid hwn
  clear h hi ho hl0 hwn
  go_enter Try.func43, Try.ntmps43
  go_wp2_with fail
  go_loopg [3] (c.out.left.toNat) (fun gk v wr => ∃ c' qs, FreshAt base g c m F w gk v c' qs wr)
  case atStart => exact ⟨_, _, S0.out⟩
  case round =>
    obtain ⟨c', qs, hS⟩ := hrel
    have HS := hid hS
    obtain ⟨vr, gM, vb, f, h⟩ := hS.inv
    have HA := hid h
    obtain ⟨n, hn⟩ : ∃ n, c'.out.bytes.length = n := ⟨_, rfl⟩
    obtain ⟨A, cap, rfl⟩ : ∃ A c2, vb = .slice A n c2 := by rw [← hn]; obtain ⟨_, A, c2, rfl, _⟩ := h.bytes.rowN; exact ⟨A, c2, rfl⟩
    have hcap : n ≤ cap := by obtain ⟨_, _, _, hv, h1, _⟩ := h.bytes.rowN; injection hv with _ _ e3; omega
    have hn65 : n ≤ 65536 := by rw [← hn]; exact hS.ok.len
    obtain ⟨k0, hk0⟩ : ∃ k : Nat, c'.out.sent = k := ⟨c'.out.sent.toNat, by have := hS.ok.sent0; omega⟩
    have hkn : k0 ≤ n := by have := hS.ok.sent1; rw [hk0, hn] at this; omega
    obtain ⟨lf, hlf⟩ : ∃ lf, n - k0 = lf := ⟨_, rfl⟩
    have hleft : c'.out.left = (lf : Int) := by unfold TOut.left; rw [hk0, hn]; omega
    obtain ⟨mm, hmm⟩ : ∃ mm : Nat, c'.out.m = mm := ⟨c'.out.m.toNat, by have := hS.ok.m0; omega⟩
    obtain ⟨ww, hww⟩ : ∃ mm : Nat, c'.out.w = mm := ⟨c'.out.w.toNat, by have := hS.ok.w0; omega⟩
    obtain ⟨d, hd⟩ : ∃ d, mSub c'.out.n c'.out.u = d := ⟨_, rfl⟩
    have hm1 : 64 ≤ mm ∧ mm ≤ 1460 := by have := hS.ok.m0; have := hS.ok.m1; omega
    have hw1 : ww ≤ 65535 := by have := hS.ok.w1; omega
    have hd1 : d ≤ 65538 := by rw [← hd]; exact hS.ok.nu'
    have hnL := hS.ok.n
    have huL := hS.ok.u
    have hdI : ((c'.out.n : Int) - (c'.out.u : Int)) % 4294967296 = (d : Int) := by rw [← hd]; unfold mSub; omega
    have hroom : c'.room = min (mm : Int) (min (lf : Int) ((ww : Int) - (d : Int))) := by unfold TConn.room; rw [hmm, hleft, hww, hd]
    obtain ⟨rm, hrm⟩ : ∃ x, c'.room = x := ⟨_, rfl⟩
    have hrmE : rm = min (mm : Int) (min (lf : Int) ((ww : Int) - (d : Int))) := by rw [← hrm, hroom]
    have c6 : wr.cell? ⟨g, 6, none⟩ = some (.int .u32 (c'.out.u : Int)) := h.tab.cell 6
    have c7 : wr.cell? ⟨g, 7, none⟩ = some (.int .u32 (c'.out.n : Int)) := h.tab.cell 7
    have c8 : wr.cell? ⟨g, 8, none⟩ = some (.int .u32 (c'.out.base : Int)) := h.tab.cell 8
    have c9 : wr.cell? ⟨g, 9, none⟩ = some (.slice A n cap) := h.tab.cell 9
    have c10 : wr.cell? ⟨g, 10, none⟩ = some (.int .i64 (ww : Int)) := by rw [← hww]; exact h.tab.cell 10
    have c11 : wr.cell? ⟨g, 11, none⟩ = some (.int .i64 (mm : Int)) := by rw [← hmm]; exact h.tab.cell 11
    have c15 : wr.cell? ⟨g, 15, none⟩ = some (.bool c'.out.fin) := h.tab.cell 15
    have hby : Bs wr (.slice A n cap) c'.out.bytes := by have := h.bytes.rowN; rw [hn] at this; unfold Bs; rw [hn]; exact this
    have HB := hid hby
    have HL0 := fun wx a1 a2 a3 a4 => left_at g c'.out A n cap wx hnL hS.ok.base hn (by omega) a1 a2 a3 a4
    rw [hleft] at HL0
    have HL := hid HL0
    have HSe0 := fun wx a1 a2 a3 => sent_at g c'.out wx hnL hS.ok.base a1 a2 a3
    rw [hk0] at HSe0
    have HSe := hid HSe0
    have hwd : IntKind.i64.wrap ((ww : Int) - (d : Int)) = (ww : Int) - (d : Int) := IntWalk.i64_in _ (by omega)
    have Hk0 := hid hk0
    have Hn := hid hn
    have Hlf := hid hlf
    have Hleft := hid hleft
    have Hrm := hid hrm
    have HrmE := hid hrmE
    have Hd := hid hd
    have Hww := hid hww
    have Hmm := hid hmm
    clear HL0 HSe0 h hn hk0 hlf hleft hmm hww hd hroom hrm hrmE hS hby
    by_cases hl0 : 0 < lf
    · have t1 : (lf : Int) > 0 := by omega
      obtain ⟨j, rfl⟩ : ∃ j, gk = j + 1 := ⟨gk - 1, by have := HS.out.few; rw [Hleft.out] at this; omega⟩
      go_upto_region 3 with (go_at_call 44; refine (HL.out _ c7 c8 c9 c15).mono ?_; rintro e w' ⟨rfl, q0, rfl⟩)
      go_quiet (fail)
      go_upto_region 4 with fail
      rw [World.drewN_drewN]
      have HSd := hid (HS.out.drewN (q0 + nq))
      have HAd := hid (HA.out.same (below_drewN (Below.refl wr.heap.size wr) (q0 + nq)))
      have HBd := hid (HB.out.drewN (q0 + nq))
      clear HS HA HB c6 c7 c8 c9 c10 c11 c15
      generalize wr.drewN (q0 + nq) = wy at *
      have c7 : wy.cell? ⟨g, 7, none⟩ = some (.int .u32 (c'.out.n : Int)) := HAd.out.tab.cell 7
      have c8 : wy.cell? ⟨g, 8, none⟩ = some (.int .u32 (c'.out.base : Int)) := HAd.out.tab.cell 8
      have c9 : wy.cell? ⟨g, 9, none⟩ = some (.slice A n cap) := HAd.out.tab.cell 9
      have c11 : wy.cell? ⟨g, 11, none⟩ = some (.int .i64 (mm : Int)) := by rw [← Hmm.out]; exact HAd.out.tab.cell 11
      have c15 : wy.cell? ⟨g, 15, none⟩ = some (.bool c'.out.fin) := HAd.out.tab.cell 15
      go_quiet ((go_at_call 44; exact Calls.quiet_of (HL.out _ c7 c8 c9 c15)))
      go_upto_region 5 with fail
      have hif : (if (ww : Int) - (d : Int) < (if lf < mm then (lf : Int) else (mm : Int)) then (ww : Int) - (d : Int) else (if lf < mm then (lf : Int) else (mm : Int))) = rm := by
        rw [HrmE.out]
        split <;> split at * <;> omega
      rw [hif]
      clear hif
      by_cases hrm0 : 0 < rm
      case neg =>
        have t2 : rm ≤ 0 := by omega
        have Hno := hid (tFreshN_no (c := c') (by rw [Hrm.out]; exact fun h => hrm0 h.2) (j + 1))
        clear hrm0
        go_wp2_with fail
        go_ret
        have hS := HSd.out.drewN nq
        have h1 := hS.l
        have h2 := hS.c
        rw [Hno.out] at h1 h2
        simp only [List.append_nil] at h1
        simp only at h2
        refine ⟨_, rfl, ⟨qs, hS.own, h1⟩, ?_, hS.fr⟩
        rw [← h2]
        exact hS.inv
      obtain ⟨q, rfl⟩ : ∃ q : Nat, rm = q := ⟨rm.toNat, by omega⟩
      have t2 : ¬ (q : Int) ≤ 0 := by omega
      have hq0 : 0 < q := by omega
      have hql : q ≤ lf ∧ q ≤ mm ∧ (q : Int) ≤ (ww : Int) - (d : Int) := by have := HrmE.out; omega
      have hkql : k0 + q ≤ n := by have := Hlf.out; omega
      obtain ⟨fl, hfl⟩ : ∃ x : Int, (if (q : Int) = (lf : Int) then 24 else 16) = x := ⟨_, rfl⟩
      have Hfl := hid hfl
      clear hrm0 hfl
      go_upto_if 53 with (first
        | (go_at_call 62; refine (HSe.out _ (by exact c7) (by exact c8) (by exact c15)).mono ?_; rintro e w' ⟨rfl, q2, rfl⟩)
        | (go_at_call 44; refine (HL.out _ (by exact c7) (by exact c8) (by exact c9) (by exact c15)).mono ?_; rintro e w' ⟨rfl, q3, rfl⟩))
      go_cut [7] from 54 to 56 (fun s wx => s = .int .i64 fl ∧ ∃ qq, wx = wy.drewN qq)
      case first =>
        by_cases hqf : q = lf
        · have e : (24 : Int) = fl := by rw [← Hfl.out, if_pos (by rw [hqf])]
          have He := hid e
          have h53 : ((q : Int) == (lf : Int)) = true := by simp; omega
          have Hqf := hid hqf
          clear e hqf
          go_wp2_with fail
          go_meet
          case rel => exact ⟨by rw [← He.out]; rfl, _, rfl⟩
        · have e : (16 : Int) = fl := by rw [← Hfl.out, if_neg (by omega)]
          have He := hid e
          have h53 : ((q : Int) == (lf : Int)) = false := by simp; omega
          have Hqf := hid hqf
          clear e
          go_wp2_with fail
          go_meet
          case rel => exact ⟨by rw [← He.out], _, rfl⟩
      case rest =>
      obtain ⟨rfl, qq, rfl⟩ := hcut
      have HSz := hid (HSd.out.drewN qq)
      have HAz := hid (HAd.out.same (below_drewN (Below.refl wy.heap.size wy) qq))
      have HBz := hid (HBd.out.drewN qq)
      clear HSd HAd HBd c7 c8 c9 c11 c15
      generalize wy.drewN qq = wz at *
      have c7 : wz.cell? ⟨g, 7, none⟩ = some (.int .u32 (c'.out.n : Int)) := HAz.out.tab.cell 7
      have c9 : wz.cell? ⟨g, 9, none⟩ = some (.slice A n cap) := HAz.out.tab.cell 9
      have hkq : IntKind.i64.wrap ((k0 : Int) + (q : Int)) = (k0 : Int) + (q : Int) := IntWalk.i64_in _ (by omega)
      obtain ⟨ii, hii, hz, hss, hbyy⟩ := info_parts u8info
      have c1 := run_cut (P := Try.prog) (T := 28) Try.underlying28 hii A n cap .i64 .i64 (k0 : Int) ((k0 : Int) + (q : Int)) k0 q rfl rfl (by omega)
      rw [hss] at c1
      clear hii hz hss hbyy
      obtain ⟨sd, hsd⟩ : ∃ sd, (c'.out.bytes.drop k0).take q = sd := ⟨_, rfl⟩
      have hbs : Bs wz (.slice (cutA A cap k0 1) q (cap - k0)) sd := by rw [← hsd]; exact Bs.cut HBz.out (by rw [Hn.out]; omega)
      have HBS := hid hbs
      have Hsd := hid hsd
      have Hsl := hid (show sd.length = q by rw [← hsd]; simp; rw [Hn.out]; omega)
      obtain ⟨_, Ao, co, rfl, _, _, _⟩ := RowN.of_own HSz.out.own.row
      have Hrl' := hid (show c'.inn.ready.length ≤ 16384 by rw [HSz.out.inn]; exact Hrl.out)
      have Hwn' := hid (show 16384 - (c'.inn.ready.length : Int) = wn by rw [HSz.out.inn]; exact Hwn.out)
      have Hbase := hid (show w.heap.size ≤ wz.heap.size from HSz.out.fr.size)
      have Hmany := hid HSz.out.many
      have Hglt := hid (show g < w.heap.size from Hflt.out g HAz.out.fg)
      obtain ⟨n2, hn2⟩ : ∃ x, (c'.out.n + q) % 4294967296 = x := ⟨_, rfl⟩
      have hn2I : ((c'.out.n : Int) + (q : Int)) % 4294967296 = (n2 : Int) := by omega
      have Hn2 := hid hn2
      clear hn2
      clear hbs hsd hnL huL
      go_step
      go_upto_region 10 with fail
      go_region_held3 (fun wx => wx.cell? ⟨g, 7, none⟩ = some (.int .u32 (c'.out.n : Int)) ∧ wx.cell? ⟨g, 9, none⟩ = some (.slice A n cap)) (first | exact ⟨c7, c9⟩ | exact ⟨cell_below (below_drew _) c7, cell_below (below_drew _) c9⟩ | exact ⟨cell_below Hb2.out c7, cell_below Hb2.out c9⟩ | exact ⟨cell_below (below_alloc' Hb2.out _) c7, cell_below (below_alloc' Hb2.out _) c9⟩ | exact HS9.out) (first
        | (go_at_call 41; (with_reducible refine (seg_at base g c' m F c'.out.n fl (.slice (cutA A cap k0 1) q (cap - k0)) sd q wn _ (by first | exact HSz.out.inv | exact HSz.out.inv.keep (below_drew _)) Hrl'.out Hwn'.out (by first | exact HBS.out | exact HBS.out.drew) Hsl.out (by omega)).mono ?_); rintro e w2 ⟨A2, cap2, rfl, hown, hb1⟩; have Hb2 := hid (show Below wz.heap.size wz w2 from by first | exact hb1 | exact (below_drew wz).trans hb1); have Ho2 := hid (show OwnBs w2 wz.heap.size 5 (.slice A2 q cap2) sd from hown); have Hq2 := hid (HSz.out.own.below Hb2.out); clear hown hb1)
        | (refine step_appG _ (by rfl) _ _ 31 (by rfl) w.heap.size 30 sgzero 8 72 sgok (.slice Ao qs.length co) qs.length (sgRow qs) (by rfl) (by first | exact own_below Hq2.out.row (below_alloc _ _) | exact Hq2.out.row) (.slice (some ⟨w2.heap.size, 0, none⟩) 1 1) 1 [.int .i64 c'.src, .int .i64 c'.dst, .int .u32 (c'.out.n : Int), .int .u32 (c'.inn.r : Int), .int .i64 fl, .int .i64 wn, .int .i64 0, .slice A2 q cap2] (by rfl) (by exact rowS_lit 8 #[.int .i64 c'.src, .int .i64 c'.dst, .int .u32 (c'.out.n : Int), .int .u32 (c'.inn.r : Int), .int .i64 fl, .int .i64 wn, .int .i64 0, .slice A2 q cap2] 1 _ rfl (by simp) (by simp [maxLen])) (by simp [Value.oneCell']) (by have := Hmany.out; omega) (by have := Hmany.out; simp only [maxLen]; omega) (by have := Hb2.out.size; have := Hbase.out; simp; omega) ?_; intro v9 w9 hown9 hg9; obtain ⟨_, A9, c9', rfl, _, _, _⟩ := RowN.of_own hown9; have Hown9 := hid hown9; have Hg9 := hid hg9; have hq9 : Below w.heap.size wz w9 := ((Hb2.out.mono Hbase.out).alloc (by have := Hb2.out.size; have := Hbase.out; omega) (.cells #[.int .i64 c'.src, .int .i64 c'.dst, .int .u32 (c'.out.n : Int), .int .u32 (c'.inn.r : Int), .int .i64 fl, .int .i64 wn, .int .i64 0, .slice A2 q cap2] 30)).trans (grown_below (own_below Hq2.out.row (below_alloc _ _)) (by have := Hb2.out.size; have := Hbase.out; simp; omega) hg9); have Hq9 := hid hq9; have HS9 := hid (And.intro ((hq9.cell (p := ⟨g, 7, none⟩) Hglt.out).trans c7) ((hq9.cell (p := ⟨g, 9, none⟩) Hglt.out).trans c9)); clear hown9 hg9 hq9)
        | fail)
      have c7z : w9.cell? ⟨g, 7, none⟩ = some (.int .u32 (c'.out.n : Int)) := HS9.out.1
      have HA9 := hid (HAz.out.sameF (fun k hk => Hq9.out.block k (Hflt.out k hk)) Hq9.out.size)
      have z7 := HA9.out.tab.frozen 7
      clear c7 c9 HS9
      go_wp2_with fail
      go_roundg j
      case measure => omega
      case rel =>
        have hS := HSz.out
        have hok := sentMore_ok (q := q) hS.ok (by rw [Hleft.out]; omega)
        have hgs := grown_set w9 g 7 (.int .u32 (n2 : Int))
        have hst := HA9.out.stored (c' := tSentMore c' q) hgs (by have := HA9.out.tab.set_ 7 (.int .u32 (n2 : Int)); unfold tSentMore; rw [Hn2.out]; exact this) rfl rfl rfl
        have hy := tFreshN_yes (c := c') (q := q) (by rw [Hleft.out]; omega) Hrm.out hq0 j
        rw [Hleft.out, Hfl.out, Hk0.out, Int.toNat_natCast, Hsd.out] at hy
        have hl := hS.l
        have hc := hS.c
        rw [hy] at hl hc
        refine ⟨tSentMore c' q, qs ++ [(tSegment c' c'.out.n fl sd, .slice A2 q cap2)], ⟨⟨vr, gM, _, f, hst⟩, hok.1, hS.inn, ?_, ?_, (hS.fr.tail Hq9.out).trans (Frame.one hgs HAz.out.fg) (fun _ _ h => h), ?_, hc, ?_⟩⟩
        · have e1 : (tSentMore c' q).out.left = c'.out.left - q := by
            unfold TOut.left
            rw [hok.2]
            show (c'.out.bytes.length : Int) - _ = _
            omega
          have := hS.few
          rw [e1]
          omega
        · have happ := OwnSgs.app (w' := w9) (v' := .slice A9 (qs.length + 1) c9') (rs := [(tSegment c' c'.out.n fl sd, .slice A2 q cap2)]) (Hq2.out.below (below_alloc w2 (.cells #[.int .i64 c'.src, .int .i64 c'.dst, .int .u32 (c'.out.n : Int), .int .u32 (c'.inn.r : Int), .int .i64 fl, .int .i64 wn, .int .i64 0, .slice A2 q cap2] 30))) (fun p hp => by
              obtain rfl : p = _ := by simpa using hp
              exact own_below (Ho2.out.mono Hbase.out) (below_alloc _ _)) (by rw [sgRow_one]; show World.ownsRow _ _ _ _ _ _ (_ ++ [_, _, _, _, _, .int .i64 (16384 - (c'.inn.ready.length : Int)), _, _]); rw [Hwn'.out]; exact Hown9.out) Hg9.out
          exact happ.frame (F := (· = g)) (frame_grown hgs (fun k hk => by injection hk with hk; exact hk.symm)) (fun k hk => by subst hk; exact Hglt.out)
        · rw [List.map_append]
          simp only [List.map_cons, List.map_nil, List.append_assoc, List.singleton_append]
          exact hl
        · have := hS.many
          simp
          omega
    · obtain rfl : lf = 0 := by omega
      have t1 : ¬ ((0 : Nat) : Int) > 0 := by omega
      have Hno := hid (tFreshN_no (c := c') (by rw [Hleft.out]; exact fun h => t1 h.1) gk)
      go_wp2_with (go_at_call 44; refine (HL.out _ (by exact c7) (by exact c8) (by exact c9) (by exact c15)).mono ?_; rintro e w' ⟨rfl, q3, rfl⟩)
      go_ret
      have hS := HS.out.drewN q3
      have h1 := hS.l
      have h2 := hS.c
      rw [Hno.out] at h1 h2
      simp only [List.append_nil] at h1
      simp only at h2
      refine ⟨_, rfl, ⟨qs, hS.own, h1⟩, ?_, hS.fr⟩
      rw [← h2]
      exact hS.inv
end Go.Proofs.Ytahlcjkcdgahkaa
