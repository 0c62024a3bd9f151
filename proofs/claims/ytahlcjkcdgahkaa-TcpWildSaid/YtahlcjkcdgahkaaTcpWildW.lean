/- The walk of TcpWild. -/
import Derived.Test.YtahlcjkcdgahkaaTcpWildL
import Derived.Test.YtahlcjkcdgahkaaTcpCall
import Derived.Test.YtahlcjkcdgahkaaSegD
import Derived.Deep.CutBlock
namespace Go.Proofs.Ytahlcjkcdgahkaa
open Go Go.RowKit
attribute [local go_sem ↓] Go.wp_at_zero Go.wp_at_succ
set_option maxRecDepth 100000

/-- the connection while the law plays, before the i-th call -/
structure WildAt (w0 wr : World) (g i last sent m : Nat) (c : TConn) (F : Nat → Prop) : Prop where
  conn : Conn w0 wr g c m F
  src : c.src = 2049
  dst : c.dst = 7
  mm : c.out.m = 1000
  lastL : last < 4294967296
  r : ∃ d, d ≤ i * 16385 ∧ c.inn.r = (last + d) % 4294967296
  bytes : c.out.bytes.length ≤ sent
  sentL : sent ≤ i * 3000
  m3 : m ≤ i * 3000
theorem WildAt.keep {w0 wr w' : World} {g i last sent m : Nat} {c : TConn} {F : Nat → Prop} (h : WildAt w0 wr g i last sent m c F) (hb : Below wr.heap.size wr w') : WildAt w0 w' g i last sent m c F := ⟨h.conn.keep hb, h.src, h.dst, h.mm, h.lastL, h.r, h.bytes, h.sentL, h.m3⟩
theorem WildAt.next {w0 wr : World} {g i last sent m : Nat} {c : TConn} {F : Nat → Prop} (h : WildAt w0 wr g i last sent m c F) : WildAt w0 wr g (i + 1) last sent m c F := by
  obtain ⟨d, hd, hr⟩ := h.r
  have h1 := h.sentL
  have h2 := h.m3
  exact ⟨h.conn, h.src, h.dst, h.mm, h.lastL, ⟨d, by omega, hr⟩, h.bytes, by omega, by omega⟩
theorem tick_id (c : TConn) (n : Int) : (tTick c n).src = c.src ∧ (tTick c n).dst = c.dst ∧ (tTick c n).out.m = c.out.m ∧ (tTick c n).inn = c.inn ∧ (tTick c n).out.bytes = c.out.bytes := by
  unfold tTick
  split
  · exact ⟨rfl, rfl, rfl, rfl, rfl⟩
  split
  · exact ⟨rfl, rfl, rfl, rfl, rfl⟩
  split
  · exact ⟨rfl, rfl, rfl, rfl, rfl⟩
  split <;> exact ⟨rfl, rfl, rfl, rfl, rfl⟩
section
variable {w0 wr wx : World} {g i last sent m m' : Nat} {c : TConn} {F F' : Nat → Prop}
/-- a call that leaves what came in -/
theorem WildAt.same {c' : TConn} (h : WildAt w0 wr g i last sent m c F) (hc : Conn w0 wx g c' m F') (h1 : c'.src = c.src) (h2 : c'.dst = c.dst) (h3 : c'.out.m = c.out.m) (h4 : c'.inn.r = c.inn.r) (h5 : c'.out.bytes = c.out.bytes) : WildAt w0 wx g (i + 1) last sent m c' F' := by
  obtain ⟨d, hd, hr⟩ := h.r
  have a := h.sentL
  have b := h.m3
  exact ⟨hc, h1.trans h.src, h2.trans h.dst, h3.trans h.mm, h.lastL, ⟨d, by omega, h4.trans hr⟩, by rw [h5]; exact h.bytes, by omega, by omega⟩
theorem WildAt.out {c' : TConn} {lk : Nat} (h : WildAt w0 wr g i last sent m c F) (hc : Conn w0 wx g c' m F') (h1 : SameIn c c') (h5 : c'.out.bytes = c.out.bytes) (hl : lk = last ∨ lk = c.inn.r) (hr : c.inn.r < 4294967296) : WildAt w0 wx g i lk sent m c' F' := by
  obtain ⟨d, hd, he⟩ := h.r
  have a := h.sentL
  have b := h.m3
  have hL := h.lastL
  have hi : c'.inn.r = c.inn.r := by rw [h1.inn]
  refine ⟨hc, h1.src.trans h.src, h1.dst.trans h.dst, h1.m.trans h.mm, ?_, ?_, by rw [h5]; exact h.bytes, a, b⟩
  · rcases hl with rfl | rfl <;> omega
  · rcases hl with rfl | rfl
    · exact ⟨d, hd, by rw [hi, he]⟩
    · exact ⟨0, by omega, by rw [hi]; omega⟩
theorem WildAt.end_ (h : WildAt w0 wr g i last sent m c F) (hc : Conn w0 wx g (tEnd c) m F') : WildAt w0 wx g (i + 1) last sent m (tEnd c) F' := h.same hc rfl rfl rfl rfl rfl
theorem WildAt.recv (h : WildAt w0 wr g i last sent m c F) (hc : Conn w0 wx g (tRecv c) m F') : WildAt w0 wx g (i + 1) last sent m (tRecv c) F' := h.same hc rfl rfl rfl rfl rfl
theorem WildAt.tick {n : Int} (h : WildAt w0 wr g i last sent m c F) (hc : Conn w0 wx g (tTick c n) m F') : WildAt w0 wx g (i + 1) last sent m (tTick c n) F' := by
  obtain ⟨h1, h2, h3, h4, h5⟩ := tick_id c n
  exact h.same hc h1 h2 h3 (by rw [h4]) h5
theorem WildAt.take {s : TSeg} (h : WildAt w0 wr g i last sent m c F) (hw : 0 ≤ s.window ∧ s.window ≤ 65535) (ha : s.ack < 4294967296) (hd : s.data.length ≤ 3000) (hm : m' = m + s.data.length) (hc : Conn w0 wx g (tTake c s) m' F') : WildAt w0 wx g (i + 1) last sent m' (tTake c s) F' := by
  obtain ⟨d, hd1, hr⟩ := h.r
  obtain ⟨h1, h2, h3⟩ := take_id c s
  obtain ⟨d2, hd2, hr2⟩ := take_r c s h.conn.i.r
  have h4 := (tTake_ok h.conn.o h.conn.i s hw ha).2.2
  have a := h.sentL
  have b := h.m3
  have e := h.bytes
  exact ⟨hc, h1.trans h.src, h2.trans h.dst, h3.trans h.mm, h.lastL, ⟨d + d2, by omega, by rw [hr2, hr]; omega⟩, by omega, by omega, by omega⟩
theorem WildAt.sendOk {b : List UInt8} (h : WildAt w0 wr g i last sent m c F) (hb : b.length ≤ 3000) (hok : (tSend c b).2 = 0) (hc : Conn w0 wx g (tSend c b).1 m F') : WildAt w0 wx g (i + 1) last (sent + b.length) m (tSend c b).1 F' := by
  obtain ⟨d, hd, hr⟩ := h.r
  have a := h.sentL
  have e := h.bytes
  have b3 := h.m3
  unfold tSend at hok hc ⊢
  split at hok
  · cases hok
  rename_i h1
  rw [if_neg h1] at hc ⊢
  split at hok
  · cases hok
  rename_i h2
  rw [if_neg h2] at hc ⊢
  exact ⟨hc, h.src, h.dst, h.mm, h.lastL, ⟨d, by omega, hr⟩, by show (c.out.bytes ++ b).length ≤ _; rw [List.length_append]; omega, by omega, by omega⟩
theorem WildAt.sendNo {b : List UInt8} (h : WildAt w0 wr g i last sent m c F) (hno : (tSend c b).2 ≠ 0) (hc : Conn w0 wx g (tSend c b).1 m F') : WildAt w0 wx g (i + 1) last sent m (tSend c b).1 F' := by
  unfold tSend at hno hc ⊢
  split at hno
  · rename_i h1
    rw [if_pos h1] at hc ⊢
    exact h.same hc rfl rfl rfl rfl rfl
  rename_i h1
  rw [if_neg h1] at hc ⊢
  split at hno
  · rename_i h2
    rw [if_pos h2] at hc ⊢
    exact h.same hc rfl rfl rfl rfl rfl
  · exact absurd rfl hno
end
theorem wild_ak (first ak sent : Nat) : ((first : Int) + 1 + (ak : Int) % (2 + (sent : Int))) % 4294967296 = ((first + 1 + ak % (2 + sent)) % 4294967296 : Nat) := by
  have h0 : ((ak % (2 + sent) : Nat) : Int) = (ak : Int) % (2 + (sent : Int)) := by rw [Int.natCast_emod, Int.natCast_add]; rfl
  rw [← h0]
  omega
/-- a block of the law's own, apart from the connection -/
structure OwnC (w : World) (g : Nat) (t : TypeId) (cs : List Value) (F : Nat → Prop) : Prop where
  blk : Blk w g t cs
  a : ¬ F g
theorem OwnC.keep {w w' : World} {g : Nat} {t : TypeId} {cs : List Value} {F : Nat → Prop} (h : OwnC w g t cs F) (hb : Below w.heap.size w w') : OwnC w' g t cs F := ⟨h.blk.keep hb, h.a⟩
set_option maxHeartbeats 8000000 in
theorem tcpWild_walk (seq first : Nat) (vL : Value) (L : List TCall) (hs : seq < 4294967296) (hf : first < 4294967296) (w : World) (hq : RowN w 11 vL L.length (tcRow L)) (hx : ∀ s ∈ L, TSegOk s.s ∧ Bs w s.v s.s.data) :
    Calls Try.prog 10 #[.int .u32 (seq : Int), .int .u32 (first : Int), vL] w fun e w' => e = .returned (.bool true) ∧ Below w.heap.size w w' := by
  obtain ⟨_, Aq, capq, rfl, kq1, kq2, kq3⟩ := hq
  have HQ := hid (show RowN w 11 (.slice Aq L.length capq) L.length (tcRow L) from ⟨by assumption, Aq, capq, rfl, kq1, kq2, kq3⟩)
  have HX := hid hx
  obtain ⟨xn, hxn⟩ : ∃ n, L.length = n := ⟨_, rfl⟩
  rw [hxn] at HQ
  rw [hxn]
  have Hxn := hid hxn
  obtain ⟨s1, hs1⟩ : ∃ x, (seq + 1) % 4294967296 = x := ⟨_, rfl⟩
  have hs1I : ((seq : Int) + 1) % 4294967296 = (s1 : Int) := by omega
  have hs1L : s1 < 4294967296 := by omega
  have HO := hid (opened_any seq first 3000 hs hf ⟨by decide, by decide⟩)
  have Hs1 := hid hs1
  have Hf := hid hf
  clear hx kq1 kq2 kq3 hxn hs1 hf
  go_enter Try.func10, Try.ntmps10
  go_upto_region 9 with (first
    | (go_at_call 13; refine (known_any _).mono ?_; rintro e w1 ⟨rfl, hb⟩; have Hb1 := hid hb; clear hb)
    | (go_at_call 14; refine (HO.out w1).mono ?_; rintro e w2 ⟨g, F, rfl, hc⟩; have H2 := hid hc; clear hc))
  have W0 := hid (show WildAt w1 w2 g 0 s1 0 0 (tOpen seq first 3000) F from ⟨H2.out, rfl, rfl, rfl, hs1L, ⟨0, by omega, by show (seq + 1) % 4294967296 = _; rw [Hs1.out]; omega⟩, Nat.zero_le _, by omega, by omega⟩)
  clear H2 HO
  rw [hs1I]
  go_loopg [8, 9, 10] 60 (fun gk s8 s9 s10 wr => ∃ (i last sent m : Nat) (c : TConn) (F : Nat → Prop), i ≤ 60 ∧ gk = 60 - i ∧ s8 = .int .u32 (last : Int) ∧ s9 = .int .i64 (sent : Int) ∧ s10 = .int .i64 (i : Int) ∧ WildAt w1 wr g i last sent m c F)
  case atStart => exact ⟨0, s1, 0, 0, _, _, by omega, rfl, rfl, rfl, rfl, W0.out⟩
  case round =>
    obtain ⟨i, last, sent, m, c, F', hi60, rfl, rfl, rfl, rfl, hW⟩ := hrel
    have HW := hid hW
    clear W0
    clear hW
    by_cases hkl : i < xn ∧ i < 60
    case neg =>
      have t1 : (i : Int) < (xn : Int) ∧ ¬ (i : Int) < 60 ∨ ¬ (i : Int) < (xn : Int) := by omega
      rcases t1 with ⟨t1, t2⟩ | t1
      · go_wp2_with fail
        go_ret
        exact ⟨rfl, Hb1.out.trans (HW.out.conn.bel.mono Hb1.out.size)⟩
      · go_wp2_with fail
        go_ret
        exact ⟨rfl, Hb1.out.trans (HW.out.conn.bel.mono Hb1.out.size)⟩
    case pos =>
      obtain ⟨hkl1, hkl2⟩ := hkl
      have t1 : (i : Int) < (xn : Int) := by omega
      have t2 : (i : Int) < 60 := by omega
      have Hmi := hid (show 60 - (i + 1) < 60 - i ∧ i + 1 ≤ 60 by omega)
      have Hbw := hid (Hb1.out.trans (HW.out.conn.bel.mono Hb1.out.size))
      have hkx : i < L.length := by rw [Hxn.out]; exact hkl1
      have hq' := HQ.out
      rw [← Hxn.out] at hq'
      obtain ⟨gb, off, rfl, hcell⟩ := call_cells hq' i hkx
      clear hq'
      obtain ⟨hsok, hsb⟩ := HX.out L[i] (List.getElem_mem hkx)
      generalize L[i] = cl at hcell hsok hsb
      obtain ⟨kind, nn, near, ⟨f, t, sq, ak, fl, wi, ms, data⟩, v⟩ := cl
      obtain ⟨n, hn⟩ : ∃ n, data.length = n := ⟨_, rfl⟩
      obtain ⟨A, cap, rfl⟩ := slice_len hsb hn
      have Hn := hid hn
      have Hsb := hid hsb
      have Hsok := hid hsok
      have Hc := hid (fun j v hj hv => cell_below Hbw.out (hcell j v hj hv))
      have Hrange := hid (show wr.rangeAt gb (off + i * 11 + 3) [.int .i64 f, .int .i64 t, .int .u32 (sq : Int), .int .u32 (ak : Int), .int .i64 fl, .int .i64 wi, .int .i64 ms, .slice A n cap] from fun j y hy => by
        have hj : j < 8 := by have := (List.getElem?_eq_some_iff.1 hy).1; exact this
        rw [show off + i * 11 + 3 + j = off + (i * 11 + (j + 3)) by omega]
        exact Hc.out (j + 3) y (by omega) hy)
      have c0 : wr.cell? ⟨gb, off + i * 11, none⟩ = some (.int .i64 kind) := Hc.out 0 _ (by decide) rfl
      have c1 : wr.cell? ⟨gb, off + i * 11 + 1, none⟩ = some (.int .i64 nn) := by rw [Nat.add_assoc]; exact Hc.out 1 _ (by decide) rfl
      have c2 : wr.cell? ⟨gb, off + i * 11 + 2, none⟩ = some (.bool near) := by rw [Nat.add_assoc]; exact Hc.out 2 _ (by decide) rfl
      have Hcs := hid (And.intro c0 (And.intro c1 c2))
      clear hcell hn hsb hsok hkx Hc c0 c1 c2
      go_upto_region 12 with (first | ((with_reducible show wpList _ _ _ (Oper.mk (some 39) _ _ _ _ _ :: _) _ _); refine wpList_load_mid rfl _ _ rfl gb (off + i * 11 + 3) rfl _ _ Hrange.out Try.underlying30 rfl seginfo ?_) | ((with_reducible show wpList _ _ _ (Oper.mk none _ _ _ _ _ :: _) _ _); refine wpList_storeBlk rfl _ _ _ rfl _ _ rfl rfl _ _ (Blk.new _ _ _) seginfo rfl rfl ?_; intro w4 hblk hg hsz; have W4 := hid (HW.out.keep (below_new_store hg)); have Hb4 := hid (below_new_store hg); have O4 := hid (show OwnC w4 wr.heap.size 30 _ F' from ⟨hblk, fun q => by have := (HW.out.conn.inv.lt _ q).2; omega⟩); clear hblk hg hsz; (try simp only [Act.put])))
      obtain ⟨gs, hgs⟩ : ∃ g, wr.heap.size = g := ⟨_, rfl⟩
      rw [hgs] at O4 ⊢
      have e5 := O4.out.blk.cell 5
      have z5 := O4.out.blk.frozen 5
      have Hgs := hid (show wr.heap.size ≤ gs by omega)
      have B4 := hid O4.out.blk
      clear O4 W4 hgs
      go_cut [] from 40 to 45 (fun wx => ∃ wi' : Int, 0 ≤ wi' ∧ wi' ≤ 65535 ∧ Below wr.heap.size wr wx ∧ Blk wx gs 30 [.int .i64 f, .int .i64 t, .int .u32 (sq : Int), .int .u32 (ak : Int), .int .i64 fl, .int .i64 wi', .int .i64 ms, .slice A n cap])
      case first =>
        by_cases h0 : wi < 0
        · go_wp2_with fail
          go_meet
          case rel => exact ⟨0, by decide, by decide, below_own Hb4.out (grown_set _ _ _ _) Hgs.out Hb4.out.size, B4.out.set_ 5 _⟩
        by_cases h1 : wi > 65535
        · go_wp2_with fail
          go_meet
          case rel => exact ⟨65535, by decide, by decide, below_own Hb4.out (grown_set _ _ _ _) Hgs.out Hb4.out.size, B4.out.set_ 5 _⟩
        · go_wp2_with fail
          go_meet
          case rel => exact ⟨wi, by omega, by omega, below_own Hb4.out (grown_set _ _ _ _) Hgs.out Hb4.out.size, B4.out.set_ 5 _⟩
      case rest =>
      obtain ⟨wi', hw0, hw1, hb5, hB5⟩ := hcut
      have Hb5 := hid hb5
      have B5 := hid hB5
      have Hwi := hid (And.intro hw0 hw1)
      clear hb5 hB5 hw0 hw1 e5 z5 B4 Hb4
      have e7 := B5.out.cell 7
      by_cases hbig : n > 3000
      · have hbI : (n : Int) > 3000 := by omega
        go_step
        go_wp2_with fail
        go_roundg (60 - (i + 1))
        case measure => omega
        case rel => exact ⟨i + 1, last, sent, m, c, F', by omega, rfl, rfl, rfl, by go_num, (HW.out.keep Hb5.out).next⟩
      have hbI : ¬ (n : Int) > 3000 := by omega
      go_step
      obtain ⟨k0, k1, k2⟩ := Hcs.out
      have k2 := cell_below Hb5.out k2
      go_upto_if 53 with fail
      go_cut [] from 53 to 71 (fun wx => ∃ sq' ak' : Nat, sq' < 4294967296 ∧ ak' < 4294967296 ∧ Below wr.heap.size wr wx ∧ Blk wx gs 30 [.int .i64 f, .int .i64 t, .int .u32 (sq' : Int), .int .u32 (ak' : Int), .int .i64 fl, .int .i64 wi', .int .i64 ms, .slice A n cap])
      case first =>
        cases near with
        | false =>
          go_wp2_with fail
          go_meet
          case rel => exact ⟨sq, ak, Hsok.out.seq, Hsok.out.ack, Hb5.out, B5.out⟩
        | true =>
          have e2 := B5.out.cell 2
          have z2 := B5.out.frozen 2
          have e3 := B5.out.cell 3
          have z3 := B5.out.frozen 3
          have hsl := HW.out.sentL
          have hsb : sent ≤ 180000 := by omega
          obtain ⟨q1, hq1⟩ : ∃ x : Nat, (last + sq % 3000 + 4294967296 - 20) % 4294967296 = x := ⟨_, rfl⟩
          have hq1I : ((last : Int) + (sq : Int) % 3000 - 20) % 4294967296 = (q1 : Int) := by omega
          have hq1L : q1 < 4294967296 := by omega
          clear hsl
          go_wp2_with fail
          go_meet
          case rel =>
           have hbb := below_own Hb5.out (grown_set wc gs 2 (.int .u32 (q1 : Int))) Hgs.out Hb5.out.size
           exact ⟨q1, (first + 1 + ak % (2 + sent)) % 4294967296, hq1L, Nat.mod_lt _ (by decide), below_own hbb (grown_set _ _ _ _) Hgs.out hbb.size, by
            have hv : ((first : Int) + 1 + (ak : Int) % (2 + (sent : Int))) % 4294967296 = ((first + 1 + ak % (2 + sent)) % 4294967296 : Nat) := wild_ak first ak sent
            rw [← hv]
            exact (B5.out.set_ 2 _).set_ 3 _⟩
      case rest =>
      obtain ⟨sq', ak', hsq, hak, hb6, hB6⟩ := hcut
      have Hb6 := hid hb6
      have B6 := hid hB6
      have Hsa := hid (And.intro hsq hak)
      clear hb6 hB6 hsq hak k2 e7
      have k0 := cell_below Hb6.out k0
      have k1 := cell_below Hb6.out k1
      go_step
      go_upto_block 2 with fail
      have W6 := hid (HW.out.keep Hb6.out)
      have Hdata := hid (Hsb.out.below (Hbw.out.trans (Hb6.out.mono (Hbw.out.size))))
      have hFs : ¬ F' gs := fun q => by have h1 := (HW.out.conn.inv.lt gs q).2; have h2 := Hgs.out; omega
      have HFs := hid (show ¬ F' gs from hFs)
      clear HW Hb5 B5 Hgs hFs
      go_cut [9] from 79 to 109 (fun s9 wx => ∃ (sent' m' : Nat) (c2 : TConn) (F2 : Nat → Prop), s9 = .int .i64 (sent' : Int) ∧ WildAt w1 wx g (i + 1) last sent' m' c2 F2)
      case first =>
        have e0 := B6.out.cell 0
        have e1 := B6.out.cell 1
        have e2 := B6.out.cell 2
        have e3 := B6.out.cell 3
        have e4 := B6.out.cell 4
        have e5 := B6.out.cell 5
        have e6 := B6.out.cell 6
        have e7 := B6.out.cell 7
        by_cases h2 : kind = 2
        · subst h2
          obtain ⟨cd, hcd⟩ : ∃ x, (tSend c data).2 = x := ⟨_, rfl⟩
          have HSe := send_conn W6.out.conn (.slice A n cap) data Hdata.out
          rw [hcd] at HSe
          have HSe := hid HSe
          have Hcd := hid hcd
          have hsb : sent ≤ 180000 := by have := W6.out.sentL; omega
          clear hcd
          by_cases hok : cd = 0
          · subst hok
            go_wp2_with (go_at_call 21; refine HSe.out.mono ?_; rintro e w7 ⟨rfl, F7, hc, hfr, _⟩; have H7 := hid hc; clear e7; have e7 := (hfr.blk B6.out HFs.out).cell 7; clear hc hfr)
            go_meet
            case rel => exact ⟨sent + n, m, _, F7, by go_num, by have h := W6.out.sendOk (by rw [Hn.out]; omega) Hcd.out H7.out; rw [Hn.out] at h; exact h⟩
          · have hcb : (cd == 0) = false := by simp; omega
            go_wp2_with (go_at_call 21; refine HSe.out.mono ?_; rintro e w7 ⟨rfl, F7, hc, hfr, _⟩; have H7 := hid hc; clear hc hfr)
            go_meet
            case rel => exact ⟨sent, m, _, F7, rfl, W6.out.sendNo (by rw [Hcd.out]; exact hok) H7.out⟩
        by_cases h3 : kind = 3
        · subst h3
          have HE := hid (end_conn W6.out.conn)
          go_wp2_with (go_at_call 29; refine HE.out.mono ?_; rintro e w7 ⟨⟨u, rfl⟩, hc, _⟩; have H7 := hid hc; clear hc)
          go_meet
          case rel => exact ⟨sent, m, _, F', rfl, W6.out.end_ H7.out⟩
        by_cases h4 : kind = 4
        · subst h4
          have HWi := hid (within_at nn 7000 7000 wc rfl (by decide) (by decide))
          have HTk := hid (fun k => tick_conn W6.out.conn k)
          go_wp2_with (first
            | (go_at_call 15; refine HWi.out.mono ?_; rintro e w' ⟨n0, hn0, rfl, rfl⟩)
            | (go_at_call 23; refine (HTk.out _).mono ?_; rintro e w7 ⟨⟨u, rfl⟩, hc, _⟩; have H7 := hid hc; clear hc))
          go_meet
          case rel => exact ⟨sent, m, _, F', rfl, W6.out.tick H7.out⟩
        by_cases h6 : kind = 6
        · subst h6
          have HR := hid (recv_conn W6.out.conn)
          go_wp2_with (go_at_call 19; refine HR.out.mono ?_; rintro e w7 ⟨v7, F7, rfl, ho, hc, _⟩; have H7 := hid hc; clear ho hc)
          go_meet
          case rel => exact ⟨sent, m, _, F7, rfl, W6.out.recv H7.out⟩
        · have hb2 : (kind == 2) = false := by simp; omega
          have hb3 : (kind == 3) = false := by simp; omega
          have hb4 : (kind == 4) = false := by simp; omega
          have hb6 : (kind == 6) = false := by simp; omega
          have HT := hid (take_at W6.out.conn f t sq' ak' fl wi' ms data A n cap Hsa.out.1 Hsa.out.2 Hwi.out.1 Hwi.out.2 Hdata.out Hn.out (by omega) (by have h1 := W6.out.m3; omega) (W6.out.conn.farB Hsb.out Hb1.out.size) _ rfl)
          go_wp2_with (first
            | ((with_reducible show wpList _ _ _ (Oper.mk (some 77) _ _ _ _ _ :: _) _ _); refine wpList_loadBlk rfl _ _ rfl gs rfl _ _ _ B6.out Try.underlying30 seginfo ?_)
            | (go_at_call 16; refine HT.out.mono ?_; rintro e w7 ⟨⟨u, rfl⟩, F7, hc, _, _⟩; have H7 := hid hc; clear hc))
          go_meet
          case rel => exact ⟨sent, m + n, _, F7, rfl, W6.out.take Hwi.out Hsa.out.2 (by show data.length ≤ 3000; rw [Hn.out]; omega) (by show m + n = m + data.length; rw [Hn.out]) H7.out⟩
      case rest =>
      obtain ⟨sent', m', c2, F2, h9, hW7⟩ := hcut
      subst u9
      have W7 := hid hW7
      clear hW7 W6 B6 Hdata HFs Hsa Hwi Hsb Hn k0 k1 Hcs Hrange
      go_step
      obtain ⟨l, hl⟩ : ∃ l, (tOut c2).1 = l := ⟨_, rfl⟩
      have HOut := hid (out_conn W7.out.conn l hl)
      obtain ⟨hof, hsame⟩ := out_of c2 (by rw [W7.out.mm]; decide) W7.out.conn.o.u W7.out.conn.o.n
      rw [hl] at hof
      have Hof := hid hof
      have Hsame := hid hsame
      clear hof hsame hl
      go_upto_region 29 with (go_at_call 17; refine HOut.out.mono ?_; rintro e w8 ⟨v8, rfl, ho, hc⟩; have H8 := hid hc; have Ho8 := hid ho; clear ho hc)
      clear HOut
      obtain ⟨qs, hqs, hql⟩ := Ho8.out
      obtain ⟨nl, hnl⟩ : ∃ n, qs.length = n := ⟨_, rfl⟩
      obtain ⟨r, hr⟩ : ∃ r, c2.inn.r = r := ⟨_, rfl⟩
      have hrL : r < 4294967296 := by rw [← hr]; exact W7.out.conn.i.r
      have Hr := hid hr
      have Hqs := hid hqs
      have Hql := hid hql
      have Hnl := hid hnl
      have hrow := RowN.of_own hqs.row
      rw [hnl] at hrow
      obtain ⟨_, A8, cap8, rfl, hA8, hB8, _⟩ := hrow
      have hnlM : nl ≤ 9223372036854775807 := by unfold maxLen at hB8; omega
      have HnlM := hid hnlM
      have hlast : ∀ x, (x = last ∨ x = r) → tLess r x = false := fun x hx => by
        obtain ⟨d, hd, he⟩ := W7.out.r
        have hL := W7.out.lastL
        rw [hr] at he
        unfold tLess
        rw [decide_eq_false_iff_not]
        rcases hx with rfl | rfl <;> omega
      have Hlast := hid hlast
      clear hqs hql hnl hr hlast Ho8 hnlM hA8 hB8
      go_upto_region 30 with fail
      go_loopg [8, 13] nl (fun gk s8 s13 wx => ∃ k lk : Nat, k ≤ nl ∧ gk = nl - k ∧ s13 = .int .i64 (k : Int) ∧ s8 = .int .u32 (lk : Int) ∧ (k = 0 ∧ lk = last ∨ 0 < k ∧ lk = r) ∧ Below w8.heap.size w8 wx)
      case atStart => exact ⟨0, last, by omega, rfl, rfl, rfl, .inl ⟨rfl, rfl⟩, Below.refl _ _⟩
      case round =>
        obtain ⟨k, lk, hk, rfl, rfl, rfl, hlk, hbx⟩ := hrel
        generalize wr = wx at *
        have Hbx := hid hbx
        have Hlk := hid hlk
        clear hbx hlk
        by_cases hlt : k < nl
        · have t3 : (k : Int) < (nl : Int) := by omega
          have Hms := hid (show nl - (k + 1) < nl - k ∧ k + 1 ≤ nl by omega)
          have hkq : k < qs.length := by rw [Hnl.out]; exact hlt
          obtain ⟨b8, cp8, hv8, hb81, hb82, hcell⟩ := Hqs.out.at (by omega)
          injection hv8 with e1 e2 e3
          subst e1
          subst e3
          clear e2
          have hk1 : wrap64 ((k : Int) + 1) = ((k + 1 : Nat) : Int) := by have := HnlM.out; unfold wrap64; omega
          have Hk1 := hid hk1
          clear hk1
          have hcx : ∀ j v, j < 8 → (qs[k].1.cells qs[k].2)[j]? = some v → wx.cell? ⟨b8, k * 8 + j, none⟩ = some v := fun j v hj hv => by
            rw [show k * 8 + j = 8 * k + j by omega]
            exact cell_below Hbx.out ((hcell k hkq j hj).trans hv)
          have hmem : qs[k].1 ∈ l := by rw [← Hql.out]; exact List.mem_map.2 ⟨_, List.getElem_mem hkq, rfl⟩
          have hofk := Hof.out _ hmem
          have hdat := (Hqs.out.datas _ (List.getElem_mem hkq)).bs
          obtain ⟨hwr, hw1, hw2, hw3, hw4, hw5, hw6⟩ := ofConn_writes hofk W7.out.src W7.out.dst W7.out.mm W7.out.conn.i.len 1 2
          have hack := hofk.ack
          rw [Hr.out] at hack
          generalize qs[k] = q at hcx hmem hofk hdat hwr hw1 hw2 hw3 hw4 hw5 hw6 hack
          obtain ⟨⟨sf, st, ssq, sak, sfl, swi, sms, sdat⟩, sv⟩ := q
          dsimp only at hcx hdat hwr hw1 hw2 hw3 hw4 hw5 hw6 hack
          subst hw2
          subst hw3
          have hack := hack.symm
          subst hack
          obtain ⟨nd, hnd⟩ : ∃ n, sdat.length = n := ⟨_, rfl⟩
          obtain ⟨Ad, cpd, rfl⟩ := slice_len hdat hnd
          have Hnd := hid hnd
          have hndI : ¬ (nd : Int) > 1000 := by omega
          have HWr := hid (show Calls Try.prog 30 #[.int .u32 1, .int .u32 2, .agg #[.int .i64 2049, .int .i64 7, .int .u32 (ssq : Int), .int .u32 (r : Int), .int .i64 sfl, .int .i64 swi, .int .i64 sms, .slice Ad nd cpd]] wx _ from twrite_any 2049 7 ssq r sfl swi sms sdat Ad nd cpd 1 2 wx (hdat.below Hbx.out) (by omega) (by decide) (by decide) hofk.seq hrL)
          have Hwr := hid hwr
          have hrange : wx.rangeAt b8 (k * 8) [.int .i64 2049, .int .i64 7, .int .u32 (ssq : Int), .int .u32 (r : Int), .int .i64 sfl, .int .i64 swi, .int .i64 sms, .slice Ad nd cpd] := fun j y hy => by
            have hj : j < 8 := by have := (List.getElem?_eq_some_iff.1 hy).1; exact this
            exact hcx j y hj hy
          have Hrange := hid hrange
          have Hcx := hid hcx
          have h16 : (bits .and .i64 sfl 16 == 0) = false := by have h := hw4; unfold tBit at h; simpa using h
          have hlf := Hlast.out lk (Hlk.out.imp And.right And.right)
          have hlkL : lk < 4294967296 := Hlk.out.elim (fun h => h.2 ▸ W7.out.lastL) (fun h => h.2 ▸ hrL)
          have HLs := hid (fun wy => by have h := less_any r lk hrL hlkL wy; rw [hlf] at h; exact h)
          clear hcx hmem hofk hdat hwr hw1 hw4 hw5 hw6 hnd hrange hlf hcell hb81 hb82 hkq
          go_upto_region 33 with (first
            | ((with_reducible show wpList _ _ _ (Oper.mk (some 121) _ _ _ _ _ :: _) _ _); refine wpList_load_mid rfl _ _ rfl b8 (k * 8) rfl _ _ Hrange.out Try.underlying30 rfl seginfo ?_)
            | (go_at_call 30; refine HWr.out.mono ?_; rintro e w9 ⟨v9, rfl, _, hb⟩; rw [Hwr.out]; have Hb9 := hid (Hbx.out.trans (hb.mono Hbx.out.size)); have Hb9x := hid hb; clear hb))
          have q0 := cell_below Hb9x.out (show wx.cell? ⟨b8, k * 8, none⟩ = some (.int .i64 2049) from Hcx.out 0 _ (by decide) rfl)
          have q1 := cell_below Hb9x.out (Hcx.out 1 _ (by decide) rfl)
          have q3 := cell_below Hb9x.out (Hcx.out 3 _ (by decide) rfl)
          have q4 := cell_below Hb9x.out (Hcx.out 4 _ (by decide) rfl)
          have q7 := cell_below Hb9x.out (Hcx.out 7 _ (by decide) rfl)
          clear HWr Hrange
          go_wp2_with (go_at_call 20; refine (HLs.out _).mono ?_; rintro e w' ⟨rfl, rfl⟩)
          go_roundg (nl - (k + 1))
          case measure => exact Hms.out.1
          case rel => exact ⟨k + 1, r, Hms.out.2, rfl, congrArg (Value.int .i64) Hk1.out, rfl, .inr ⟨Nat.succ_pos k, rfl⟩, Hb9.out⟩
        · obtain rfl : k = nl := by omega
          have t3 : ¬ (k : Int) < (k : Int) := by omega
          have HU := hid (unsent_any _ g _ _ _ _ (H8.out.keep Hbx.out).inv)
          have HSt := hid (state_any _ g _ _ _ _ (H8.out.keep Hbx.out).inv)
          have hu1 : (tOut c2).2.out.bytes = c2.out.bytes := (tOut_ok W7.out.conn.o).2.2
          obtain ⟨ub, hub⟩ : ∃ n, (tOut c2).2.out.bytes.length = n := ⟨_, rfl⟩
          obtain ⟨st, hst⟩ : ∃ x, (tOut c2).2.state = x := ⟨_, rfl⟩
          have hs1' : 1 ≤ st ∧ st ≤ 5 := by rw [← hst]; exact H8.out.o.st
          have hub1 : ub ≤ 65536 := by rw [← hub]; exact H8.out.o.len
          have hub2 : ub ≤ sent' := by rw [← hub, hu1]; exact W7.out.bytes
          rw [hub] at HU
          rw [hst] at HSt
          have g1 : ¬ (ub : Int) > 65536 := by omega
          have g2 : ¬ (ub : Int) > (sent' : Int) := by omega
          have g3 : ¬ st < 1 := by omega
          have g4 : ¬ st > 5 := by omega
          have hub := hid hub
          have hu1 := hid hu1
          clear hst hs1' hub1 hub2
          go_wp2_with (first
            | (go_at_call 27; refine HU.out.mono ?_; rintro e w' ⟨rfl, rfl⟩)
            | (go_at_call 18; refine HSt.out.mono ?_; rintro e w' ⟨rfl, rfl⟩))
          go_roundg (60 - (i + 1))
          case measure => exact Hmi.out.1
          case rel => exact ⟨i + 1, lk, sent', m', _, F2, Hmi.out.2, rfl, rfl, rfl, by go_num, W7.out.out (H8.out.keep Hbx.out) Hsame.out hu1.out (by rw [Hr.out]; exact Hlk.out.imp And.right And.right) (by rw [Hr.out]; exact hrL)⟩
end Go.Proofs.Ytahlcjkcdgahkaa
