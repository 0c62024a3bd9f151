/- The walk of TcpGoes. -/
import Derived.Test.YtahlcjkcdgahkaaTcpGoesN
import Derived.Test.YtahlcjkcdgahkaaTcpWildL
import Derived.Deep.CutBlock
import Derived.Deep.MidRow
namespace Go.Proofs.Ytahlcjkcdgahkaa
open Go Go.RowKit
attribute [local go_sem ↓] Go.wp_at_zero Go.wp_at_succ
set_option maxRecDepth 100000

theorem out_connF {w0 w : World} {g : Nat} {c : TConn} {m : Nat} {F : Nat → Prop} (h : Conn w0 w g c m F) (l : List TSeg) (hl : (tOut c).1 = l) :
    Calls Try.prog 17 #[.pointer (some ⟨g, 0, none⟩)] w fun e w' => ∃ v', e = .returned v' ∧ OwnSgL w' w.heap.size v' l ∧ Conn w0 w' g (tOut c).2 m F ∧ Frame F w w' := by
  refine (out_any w0.heap.size g c m F w h.inv h.i h.o).mono ?_
  rintro e w' ⟨v', rfl, hown, hi, hf⟩
  have := tOut_ok h.o
  exact ⟨v', rfl, by rw [← hl]; exact hown, h.frameB hi hf (by rw [this.2.1]; exact h.i) this.1, hf⟩
/-- a row of the law's own: none of the connection's blocks -/
def Mine (F : Nat → Prop) (w : World) (v : Value) : Prop := ∀ k, v.ownBlock = some k → ¬ F k ∧ k < w.heap.size
/-- the connection, and what came of its bytes -/
structure GLaw (w0 wr : World) (g m : Nat) (c : TConn) (F : Nat → Prop) (V : Value) (got : List UInt8) : Prop where
  conn : Conn w0 wr g c m F
  og : OwnBs wr w0.heap.size 5 V got
  mg : Mine F wr V
theorem GLaw.step {w0 wr w' : World} {g m m' : Nat} {c c' : TConn} {F F' : Nat → Prop} {V : Value} {got : List UInt8} (h : GLaw w0 wr g m c F V got) (hc : Conn w0 w' g c' m' F') (hf : Frame F wr w') (hn : ∀ k, F' k → F k ∨ wr.heap.size ≤ k) : GLaw w0 w' g m' c' F' V got :=
  ⟨hc, hf.own h.og (fun k hk => (h.mg k hk).1), fun k hk => ⟨fun q => by
    have := h.mg k hk
    rcases hn k q with q | q
    · exact this.1 q
    · omega, by have := (h.mg k hk).2; have := hf.size; omega⟩⟩
theorem GLaw.keep {w0 wr w' : World} {g m : Nat} {c : TConn} {F : Nat → Prop} {V : Value} {got : List UInt8} (h : GLaw w0 wr g m c F V got) (hb : Below wr.heap.size wr w') : GLaw w0 w' g m c F V got :=
  h.step (h.conn.keep hb) (Below.frameF hb F) (fun _ q => .inl q)
theorem GLaw.grow {w0 wr w' : World} {g m : Nat} {c : TConn} {F : Nat → Prop} {V V' : Value} {got got' : List UInt8} (h : GLaw w0 wr g m c F V got) (hg : wr.grownBy w' V.ownBlock) (ho : OwnBs w' w0.heap.size 5 V' got') (hat : V'.ownBlock = V.ownBlock ∨ V'.ownBlock = some wr.heap.size) : GLaw w0 w' g m c F V' got' := by
  have hfr : Frame (fun k => V.ownBlock = some k) wr w' := frame_grown hg (fun k hk => hk)
  refine ⟨⟨h.conn.inv.frame hfr (fun k hk q => (h.mg k q).1 hk), h.conn.i, h.conn.o, h.conn.bel.trans (grown_below h.og h.conn.bel.size hg)⟩, ho, fun k hk => ?_⟩
  have hlt := (World.ownsRow.lt ho k hk).2
  refine ⟨fun q => ?_, hlt⟩
  rcases hat with e | e
  · rw [e] at hk; exact (h.mg k hk).1 q
  · rw [e] at hk
    injection hk with hk
    have := (h.conn.inv.lt k q).2
    omega
/-- the segments that went out, apart from what came -/
structure SegsAt (wx : World) (B : Nat) (v : Value) (qs : List (TSeg × Value)) (V : Value) : Prop where
  own : OwnSgs wx B v qs
  a1 : ∀ k, v.ownBlock = some k → V.ownBlock ≠ some k
  a2 : ∀ q ∈ qs, ∀ k, q.2.ownBlock = some k → V.ownBlock ≠ some k
theorem SegsAt.keep {wx w' : World} {B : Nat} {v V : Value} {qs : List (TSeg × Value)} (h : SegsAt wx B v qs V) (hb : Below wx.heap.size wx w') : SegsAt w' B v qs V := ⟨h.own.below hb, h.a1, h.a2⟩
theorem SegsAt.grow {wx w' : World} {B : Nat} {v V V' : Value} {qs : List (TSeg × Value)} (h : SegsAt wx B v qs V) (hg : wx.grownBy w' V.ownBlock) (hat : V'.ownBlock = V.ownBlock ∨ V'.ownBlock = some wx.heap.size) : SegsAt w' B v qs V' := by
  have hfr : Frame (fun k => V.ownBlock = some k) wx w' := frame_grown hg (fun k hk => hk)
  have hnew : ∀ (u : Value) (e : TypeId) (sz n : Nat) (xs : List Value), wx.ownsRow B e sz u n xs → (∀ k, u.ownBlock = some k → V.ownBlock ≠ some k) → ∀ k, u.ownBlock = some k → V'.ownBlock ≠ some k := by
    intro u e sz n xs ho ha k hk q
    rcases hat with e | e
    · rw [e] at q; exact ha k hk q
    · rw [e] at q
      injection q with q
      have := (World.ownsRow.lt ho k hk).2
      omega
  exact ⟨⟨fun q hq => hfr.own (h.own.datas q hq) (h.a2 q hq), hfr.own h.own.row h.a1⟩, hnew v _ _ _ _ h.own.row h.a1, fun q hq => hnew q.2 _ _ _ _ (h.own.datas q hq) (h.a2 q hq)⟩
theorem chain_len : ∀ (qs : List GSeg) (a b : Nat), Chain qs a b → qs.length + a ≤ b := by
  intro qs
  induction qs with
  | nil => intro a b h; have : a = b := h; simp; omega
  | cons q qs ih =>
    intro a b h
    have h1 := ih _ _ h.2.2.2.2.2
    have h2 := h.2.1
    simp only [List.length_cons]
    omega
theorem shape_len {Dl w G sent sent' : Nat} {fin again fin' : Bool} {qs : List GSeg} (hs : Shape Dl w G sent fin again qs sent' fin') (hD : Dl ≤ 6000) : qs.length ≤ 6001 := by
  cases hs with
  | front qs h1 h2 h3 hG hc fin' hf =>
    have := chain_len _ _ _ hc
    rw [List.length_append]
    split <;> simp <;> omega
  | last => simp
  | behind qs h1 h2 h3 hG hc fin' hf =>
    have := chain_len _ _ _ hc
    rw [List.length_append]
    split <;> simp <;> omega
  | none => simp
  | resent => simp
theorem mu_pos {Dl w G sent : Nat} {fin again : Bool} {L : Nat} : 3 ≤ mu Dl w G sent fin again L := by
  unfold mu kap
  split
  · split
    · omega
    split
    · omega
    split <;> omega
  · split
    · omega
    split <;> omega
theorem blk8g {w : World} {g : Nat} {t : TypeId} {x0 x1 x2 x3 x4 x5 x6 x7 : Value} (h : Blk w g t [x0, x1, x2, x3, x4, x5, x6, x7]) :
    w.cell? ⟨g, 0, none⟩ = some x0 ∧ w.cell? ⟨g, 1, none⟩ = some x1 ∧ w.cell? ⟨g, 2, none⟩ = some x2 ∧ w.cell? ⟨g, 3, none⟩ = some x3 ∧ w.cell? ⟨g, 4, none⟩ = some x4 ∧ w.cell? ⟨g, 5, none⟩ = some x5 ∧ w.cell? ⟨g, 6, none⟩ = some x6 ∧ w.cell? ⟨g, 7, none⟩ = some x7 :=
  ⟨h.cell 0, h.cell 1, h.cell 2, h.cell 3, h.cell 4, h.cell 5, h.cell 6, h.cell 7⟩
/-- the loop's state -/
inductive GoAt (w0 wr : World) (g m f1 w : Nat) (D : List UInt8) (V : Value) (n L tries turn : Nat) : Bool → Prop
  | runs (G sent : Nat) (fin again acks : Bool) (F : Nat → Prop) (h : GLaw w0 wr g m (goC goInn f1 w D G sent fin again tries acks) F V (D.take G)) (hi : GoI D.length w G sent fin again tries acks) (hm : turn + mu D.length w G sent fin again L ≤ 9000) (hL : L ≤ n ∧ L ≤ 59) : GoAt w0 wr g m f1 w D V n L tries turn false
  | over (c : TConn) (F : Nat → Prop) (h : GLaw w0 wr g m c F V D) (h1 : c.state = 5) (h2 : c.out.bytes = []) : GoAt w0 wr g m f1 w D V n L tries turn true
theorem GoAt.split {w0 wr : World} {g m f1 w : Nat} {D : List UInt8} {V : Value} {n L tries turn : Nat} {en : Bool} (h : GoAt w0 wr g m f1 w D V n L tries turn en) :
    (∃ c F, en = true ∧ GLaw w0 wr g m c F V D ∧ c.state = 5 ∧ c.out.bytes = []) ∨
    (∃ G sent fin again acks F, en = false ∧ GLaw w0 wr g m (goC goInn f1 w D G sent fin again tries acks) F V (D.take G) ∧ GoI D.length w G sent fin again tries acks ∧ turn + mu D.length w G sent fin again L ≤ 9000 ∧ (L ≤ n ∧ L ≤ 59)) := by
  cases h with
  | runs G sent fin again acks F h hi hm hL => exact .inr ⟨G, sent, fin, again, acks, F, rfl, h, hi, hm, hL⟩
  | over c F h h1 h2 => exact .inl ⟨c, F, rfl, h, h1, h2⟩
set_option maxHeartbeats 8000000 in
theorem tcpGoes_walk (v : Value) (D : List UInt8) (first : Nat) (wi : Int) (vl : Value) (lost : List Bool) (hf : first < 4294967296) (w : World) (h : Bs w v D) (hl : RowN w 1 vl lost.length (lost.map Value.bool)) :
    Calls Try.prog 9 #[v, .int .u32 (first : Int), .int .i64 wi, vl] w fun e w' => e = .returned (.bool true) ∧ Below w.heap.size w w' := by
  obtain ⟨Dl, hDl⟩ : ∃ n, D.length = n := ⟨_, rfl⟩
  obtain ⟨A, cap, rfl⟩ := slice_len h hDl
  have Hb := hid h
  have HDl := hid hDl
  clear h hDl
  obtain ⟨lw, Al, capl, rfl, kl1, kl2, kl3⟩ := hl
  obtain ⟨ll, hll⟩ : ∃ n, lost.length = n := ⟨_, rfl⟩
  have HLo := hid (show RowN w 1 (.slice Al lost.length capl) lost.length (lost.map Value.bool) from ⟨lw, Al, capl, rfl, kl1, kl2, kl3⟩)
  rw [hll] at HLo kl1
  have Hll := hid hll
  have hllM : ll ≤ 9223372036854775807 := by unfold maxLen at kl2; omega
  rw [hll]
  clear lw kl1 kl2 kl3 hll
  by_cases hbig : Dl > 6000
  · have t1 : (Dl : Int) > 6000 := by omega
    go_enter Try.func9, Try.ntmps9
    go_wp2_with (go_at_call 13; refine (known_any _).mono ?_; rintro e w1 ⟨rfl, hb⟩; have Hb1 := hid hb; clear hb)
    go_ret
    exact ⟨rfl, Hb1.out⟩
  have t1 : ¬ (Dl : Int) > 6000 := by omega
  obtain ⟨f1, hf1⟩ : ∃ x, (first + 1) % 4294967296 = x := ⟨_, rfl⟩
  have hf1I : ((first : Int) + 1) % 4294967296 = (f1 : Int) := by omega
  have hf1L : f1 < 4294967296 := by omega
  have HWi := hid (fun wx => within_at wi 3000 3000 wx rfl (by decide) (by decide))
  have Hf := hid hf
  have Hf1 := hid hf1
  clear hf1 hbig hf
  go_enter Try.func9, Try.ntmps9
  go_upto_region 6 with (first
    | (go_at_call 13; refine (known_any _).mono ?_; rintro e w1 ⟨rfl, hb⟩; have Hb1 := hid hb; clear hb)
    | (go_at_call 15; refine (HWi.out _).mono ?_; rintro e w' ⟨w00, hw00, rfl, rfl⟩))
  obtain ⟨wd, hwd⟩ : ∃ x, 1 + w00 = x := ⟨_, rfl⟩
  have hwd1 : 1 ≤ wd ∧ wd ≤ 3000 := by omega
  have hwdI : 1 + (w00 : Int) = (wd : Int) := by omega
  rw [hwdI]
  have HO := hid (opened_any 50 first wd (by decide) Hf.out ⟨by omega, by omega⟩)
  obtain ⟨hbeg1, hbeg2⟩ := goes_begin first wd D (by have := HDl.out; omega)
  have Hbg1 := hid hbeg1
  have Hbg2 := hid hbeg2
  have Hwd := hid hwd1
  clear hwd hw00 hbeg1 hbeg2 hwdI HWi hwd1
  go_upto_region 7 with (go_at_call 14; refine (HO.out _).mono ?_; rintro e w2 ⟨g, F, rfl, hc⟩; have H2 := hid hc; clear hc)
  have HSe := send_conn H2.out (.slice A Dl cap) D ((Hb.out.below Hb1.out).below H2.out.bel)
  rw [Hbg1.out] at HSe
  have HSe := hid HSe
  go_upto_region 9 with (go_at_call 21; refine HSe.out.mono ?_; rintro e w3 ⟨rfl, F3, hc, hfr, _⟩; have H3 := hid hc; clear hc hfr)
  have HT := hid (take_at H3.out 0 0 51 f1 17 wd 0 [] none 0 0 (by decide) hf1L (by omega) (by have := Hwd.out; omega) (Bs.nil _) rfl (by decide) (by decide) (.inl rfl) _ rfl)
  clear HO HSe H2
  go_upto_region 10 with (go_at_call 16; refine HT.out.mono ?_; rintro e w4 ⟨⟨u, rfl⟩, F4, hc, _, _⟩; have H4 := hid hc; clear hc)
  have HE := hid (end_conn H4.out)
  clear HT H3
  go_upto_region 11 with (go_at_call 29; refine HE.out.mono ?_; rintro e w5 ⟨⟨u, rfl⟩, hc, _⟩; rw [show f1 = (first + 1) % 4294967296 from Hf1.out.symm, Hbg2.out] at hc; have H5 := hid hc; clear hc)
  clear HE H4 Hbg1 Hbg2
  obtain ⟨fp, hfp⟩ : ∃ x, first + 1 = x := ⟨_, rfl⟩
  rw [hfp] at H5
  have Hfp := hid hfp
  clear hfp
  have hDn : D.length ≤ 6000 := by have := HDl.out; omega
  have G0 := hid (show GoAt w1 w5 g 0 fp wd D (.slice none 0 0) 0 0 0 0 false from .runs 0 0 false false true F4 ⟨H5.out, OwnBs.nil _ _ _, fun k hk => by simp [Value.ownBlock] at hk⟩ ⟨Nat.zero_le _, Nat.zero_le _, (fun e => by cases e), fun _ => by omega, (fun e => by cases e), fun _ => rfl, fun _ => ⟨rfl, rfl, rfl⟩⟩ (by have := kap_le (Dl := D.length) (w := wd) (G := 0) (sent := 0) (fin := false) (again := false); unfold mu; omega) ⟨Nat.le_refl _, by decide⟩)
  have HDn := hid hDn
  clear H5 hDn
  try rw [hf1I]
  go_upto_region 15 with fail
  have hz6 : decide ((6000 : Int) < (Dl : Int)) = false := by simp; omega
  try rw [hz6]
  clear hz6
  go_loopg [10, 11, 12, 13, 14] 9000 (fun gk V s11 s12 s13 s14 wr => ∃ (n L tries turn : Nat) (en : Bool), turn ≤ 9000 ∧ gk = 9000 - turn ∧ s11 = .bool en ∧ s12 = .int .i64 (n : Int) ∧ s13 = .int .i64 (tries : Int) ∧ s14 = .int .i64 (turn : Int) ∧ n ≤ 6001 * turn ∧ GoAt w1 wr g 0 fp wd D V n L tries turn en)
  case atStart => exact ⟨0, 0, 0, 0, false, by omega, rfl, rfl, rfl, rfl, rfl, by omega, G0.out⟩
  case round =>
    obtain ⟨n, L, tries, turn, en, hturn, rfl, rfl, rfl, rfl, rfl, hn6, hG⟩ := hrel
    clear G0
    rcases hG.split with ⟨c, F5, rfl, hgl, hst, hby⟩ | ⟨G, sent, fin, again, acks, F5, rfl, hgl, hgi, hm, hL⟩
    · clear hG
      have HS := hid (state_conn hgl.conn 5 hst)
      have HU := unsent_any _ g _ _ _ _ hgl.conn.inv
      rw [hby] at HU
      have HU := hid HU
      have Hbel := hid (Hb1.out.trans (hgl.conn.bel.mono Hb1.out.size))
      have s1 := run_str Try.underlying28 Try.underlying5 Try.underlying9 hgl.og.bs
      have s2 := run_str Try.underlying28 Try.underlying5 Try.underlying9 (Hb.out.below Hbel.out)
      clear hgl
      by_cases ht : turn < 9000
      · have t3 : (turn : Int) < 9000 := by omega
        go_wp2_with (first
          | (go_at_call 18; refine HS.out.mono ?_; rintro e w' ⟨rfl, rfl⟩)
          | (go_at_call 27; refine HU.out.mono ?_; rintro e w' ⟨rfl, rfl⟩))
        go_ret
        exact ⟨rfl, Hbel.out⟩
      · have t3 : ¬ (turn : Int) < 9000 := by omega
        go_wp2_with (first
          | (go_at_call 18; refine HS.out.mono ?_; rintro e w' ⟨rfl, rfl⟩)
          | (go_at_call 27; refine HU.out.mono ?_; rintro e w' ⟨rfl, rfl⟩))
        go_ret
        exact ⟨rfl, Hbel.out⟩
    · clear hG
      obtain ⟨qs, sent', fin', hout, hshape⟩ := goes_out (i := goInn) (f1 := fp) hgi HDn.out Hwd.out.1
      have hlen := shape_len hshape HDn.out
      have hok := shape_ok hgi hshape
      have hmp := mu_pos (Dl := D.length) (w := wd) (G := G) (sent := sent) (fin := fin) (again := again) (L := L)
      have htl : turn < 9000 := by omega
      have t3 : (turn : Int) < 9000 := by omega
      have hst0 : (goC goInn fp wd D G sent fin again tries acks).state = if fin then 4 else 3 := rfl
      obtain ⟨st, hst⟩ : ∃ x : Int, (if fin then (4 : Int) else 3) = x := ⟨_, rfl⟩
      have hst5 : (st != 5) = true := by rw [← hst]; cases fin <;> rfl
      have HS := hid (state_conn hgl.conn st (hst0.trans hst))
      have HOut := hid (out_connF hgl.conn (qs.map (goS goInn fp D)) (by rw [hout]))
      have Hgl := hid hgl
      have Hgi := hid hgi
      have Hout := hid hout
      have Hshape := hid hshape
      have Hok := hid hok
      have Hm := hid hm
      have HLn := hid hL
      have Hlen := hid hlen
      have Hms := hid (show 9000 - (turn + 1) < 9000 - turn ∧ turn + 1 ≤ 9000 by omega)
      have Hn6 := hid hn6
      clear hgl hgi hout hshape hok hm hL hlen hmp hst0 hst hn6
      go_upto_region 18 with (first
        | (go_at_call 18; refine HS.out.mono ?_; rintro e w' ⟨rfl, rfl⟩)
        | (go_at_call 17; refine HOut.out.mono ?_; rintro e w8 ⟨v8, rfl, ho, hc, hfr⟩; rw [Hout.out] at hc; have H8 := hid (Hgl.out.step hc hfr (fun _ q => .inl q)); have Ho8 := hid ho; have Hfr8 := hid hfr; clear ho hc hfr))
      obtain ⟨qv, hqv, hql⟩ := Ho8.out
      obtain ⟨nq, hnq⟩ : ∃ k, qs.length = k := ⟨_, rfl⟩
      have hnv : qv.length = nq := by rw [← hnq]; have := congrArg List.length hql; simpa using this
      have S8 := hid (show SegsAt w8 w'.heap.size v8 qv u10 from ⟨hqv, fun k hk q => by have h1 := (Hgl.out.mg k q).2; have h2 := (World.ownsRow.lt hqv.row k hk).1; omega, fun p hp k hk q => by have h1 := (Hgl.out.mg k q).2; have h2 := (World.ownsRow.lt (hqv.datas p hp) k hk).1; omega⟩)
      have hrow := RowN.of_own hqv.row
      rw [hnv] at hrow
      obtain ⟨_, A8, cap8, rfl, hA8, hB8, _⟩ := hrow
      have Hnq := hid hnq
      have Hnv := hid hnv
      have Hql := hid hql
      have hnq1 : nq ≤ 6001 := by rw [← hnq]; exact Hlen.out
      clear hqv hql hnq hnv Ho8 HOut HS hA8 hB8
      go_upto_region 20 with fail
      go_loopg [10, 11, 12, 16, 17] nq (fun gk V s11 s12 s16 s17 wx => ∃ (k G2 : Nat) (bs : List Bool) (h2 e2 : Bool), k ≤ nq ∧ gk = nq - k ∧ s11 = .bool e2 ∧ s12 = .int .i64 ((n + k : Nat) : Int) ∧ s16 = .bool h2 ∧ s17 = .int .i64 (k : Int) ∧ Hid (bs.length = k ∧ rvs D.length (qs.take k) bs (G, false, false) = (G2, h2, e2) ∧ (tries = 4 → cnt bs = 0) ∧ L + cnt bs ≤ n + k ∧ L + cnt bs ≤ 59 ∧ G ≤ G2 ∧ G2 ≤ D.length ∧ GLaw w1 wx g 0 (goC goInn fp wd D G sent' fin' false tries false) F5 V (D.take G2) ∧ SegsAt wx w'.heap.size (.slice A8 nq cap8) qv V))
      case atStart => exact ⟨0, G, [], false, false, by omega, rfl, rfl, by simp, rfl, rfl, hid ⟨rfl, by unfold rvs; rfl, fun _ => rfl, by have := HLn.out; simp [cnt]; omega, by have := HLn.out; simp [cnt]; omega, Nat.le_refl _, Hgi.out.g, H8.out, S8.out⟩⟩
      case round =>
        obtain ⟨k, G2, bs, h2, e2, hk, rfl, rfl, rfl, rfl, rfl, Hr⟩ := hrel
        by_cases hkn : k < nq
        · have t4 : (k : Int) < (nq : Int) := by omega
          obtain ⟨hbl, hrv, htr, hc1, hc2, hGG, hGD, hgl, hsg⟩ := Hr.out
          have hkq : k < qs.length := by rw [Hnq.out]; exact hkn
          have hkv : k < qv.length := by rw [Hnv.out]; exact hkn
          obtain ⟨b8, cp8, hv8, hb81, hb82, hcell⟩ := hsg.own.at (by omega)
          injection hv8 with e1 e9 e3
          subst e1
          subst e3
          clear e9
          have hseg : qv[k].1 = goS goInn fp D qs[k] := by
            have h1 := congrArg (fun l => l[k]?) Hql.out
            simp only [List.getElem?_map, List.getElem?_eq_getElem hkv, List.getElem?_eq_getElem hkq, Option.map_some, Option.some.injEq] at h1
            exact h1
          have hcx : ∀ j x, j < 8 → (qv[k].1.cells qv[k].2)[j]? = some x → wr.cell? ⟨b8, k * 8 + j, none⟩ = some x := fun j x hj hx => by
            rw [show k * 8 + j = 8 * k + j by omega]
            exact (hcell k hkv j hj).trans hx
          have hdat := (hsg.own.datas _ (List.getElem_mem hkv)).bs
          have hokq := Hok.out _ (List.getElem_mem hkq)
          rw [hseg] at hcx hdat
          have hrvs := fun b => rvs_snoc D.length qs[k] b (qs.take k) bs (G, false, false) (by rw [List.length_take, hbl]; omega)
          rw [← take_snoc qs k hkq, hrv] at hrvs
          generalize qv[k].2 = sv at hcx hdat
          generalize qs[k] = q at hcx hdat hokq hrvs
          obtain ⟨off, len, fl⟩ := q
          obtain ⟨ho1, ho2, ho3, ho4⟩ := hokq
          dsimp only at ho1 ho2 ho3 ho4
          have hdl : (goS goInn fp D ⟨off, len, fl⟩).data.length = len := by show ((D.drop off).take len).length = len; rw [List.length_take, List.length_drop]; omega
          obtain ⟨As, cps, rfl⟩ := slice_len hdat hdl
          obtain ⟨sq, hsq⟩ : ∃ x, (fp + off) % 4294967296 = x := ⟨_, rfl⟩
          have hDl := HDl.out
          have hsqI : ((sq : Int) - (first : Int)) % 4294967296 = (off : Int) + 1 := by have := Hfp.out; have := HDn.out; omega
          have hoffL : (off : Int) ≤ 6000 := by have := HDn.out; omega
          have hsqL : sq < 4294967296 := by omega
          obtain ⟨fb, hfb⟩ : ∃ b, tBit fl 1 = b := ⟨_, rfl⟩
          have hrange : wr.rangeAt b8 (k * 8) [.int .i64 2049, .int .i64 7, .int .u32 (sq : Int), .int .u32 52, .int .i64 fl, .int .i64 (16384 - ((0 : Nat) : Int)), .int .i64 0, .slice As len cps] := fun j y hy => by
            have hj : j < 8 := by have := (List.getElem?_eq_some_iff.1 hy).1; exact this
            refine hcx j y hj ?_
            rw [← hy, ← hsq]
            rfl
          obtain ⟨Av, capv, rfl⟩ := slice_len hgl.og.bs (n := G2) (by rw [List.length_take]; omega)
          have HneV := hid (fun q (hq : (Value.slice Av G2 capv).ownBlock = some q) => (hgl.mg q hq).2)
          have Hrange := hid hrange
          have Hdat := hid (show Bs wr (.slice As len cps) ((D.drop off).take len) from hdat)
          have Hgl2 := hid hgl
          have Hsg2 := hid hsg
          have Hbs := hid (And.intro hbl (And.intro htr (And.intro hc1 (And.intro hc2 (And.intro hGG hGD)))))
          have Hrvs := hid hrvs
          have Hfb := hid hfb
          have hbit : (bits .and .i64 fl 1 != 0) = fb := by rw [← hfb]; rfl
          clear hbl hrv htr hc1 hc2 hGG hgl hsg hkq hkv hb81 hb82 hcell hseg hcx hdat hdl hsq hrange hrvs hfb Hr
          go_upto_region 23 with (first
            | ((with_reducible show wpList _ _ _ (Oper.mk (some 68) _ _ _ _ _ :: _) _ _); refine wpList_load_mid rfl _ _ rfl b8 (k * 8) rfl _ _ Hrange.out Try.underlying30 rfl seginfo ?_)
            | ((with_reducible show wpList _ _ _ (Oper.mk none _ _ _ _ _ :: _) _ _); refine wpList_storeBlk rfl _ _ _ rfl _ _ rfl rfl _ _ (Blk.new _ _ _) seginfo rfl rfl ?_; intro w9 hblk hg hsz; have hb := below_new_store hg; have Hb9 := hid hb; have B9 := hid hblk; clear hblk hg hsz hb; (try simp only [Act.put])))
          obtain ⟨gs, hgs⟩ : ∃ x, wr.heap.size = x := ⟨_, rfl⟩
          rw [hgs] at B9 HneV ⊢
          obtain ⟨p0, p1, p2, p3, p4, p5, p6, p7⟩ := blk8g B9.out
          go_upto_region 26 with fail
          have hz7 : decide ((1000 : Int) < (len : Int)) = false := by simp; omega
          try rw [hz7]
          try rw [hsqI]
          clear hz7 hsqI
          have hcA : ¬ ((off : Int) + (len : Int) > (G2 : Int) + (wd : Int)) := by have := Hbs.out.2.2.2.2.1; omega
          have hcB : ¬ ((off : Int) > (Dl : Int) + 1) := by omega
          have Hbig := hid (show (off : Int) + (len : Int) ≤ 6000 ∧ G2 ≤ 6000 ∧ Dl ≤ 6000 ∧ n + k ≤ 60000000 by have h1 := HDn.out; have h2 := Hn6.out; refine ⟨by omega, by omega, by omega, by omega⟩)
          go_cut [136] from 99 to 137 (fun s wx => s = .bool false ∧ ∃ q, wx = w9.drewN q)
          case first =>
            as_aux_lemma =>
              obtain ⟨ii, hii, hz, hss, hby⟩ := info_parts u8info
              have hLc : Dl ≤ cap := by obtain ⟨_, _, _, hv, h1, _⟩ := Hb.out; injection hv with _ e8 e3; omega
              have hbel9 := (Hb1.out.trans (Hgl2.out.conn.bel.mono Hb1.out.size)).trans (Hb9.out.mono (Nat.le_trans Hb1.out.size Hgl2.out.conn.bel.size))
              obtain ⟨hb1, hb2, hb3, _⟩ := Hbig.out
              obtain ⟨hwd1, hwd2⟩ := Hwd.out
              have z1 : IntKind.i64.wrap ((off : Int) + (len : Int)) = (off : Int) + (len : Int) := IntWalk.i64_in _ (by omega)
              have z2 : IntKind.i64.wrap ((G2 : Int) + (wd : Int)) = (G2 : Int) + (wd : Int) := IntWalk.i64_in _ (by omega)
              have z3 : IntKind.i64.wrap ((Dl : Int) + 1) = (Dl : Int) + 1 := IntWalk.i64_in _ (by omega)
              have z4 : IntKind.i64.wrap (off : Int) = (off : Int) := IntWalk.i64_in _ (by omega)
              by_cases hl0 : 0 < len
              case neg =>
                go_quiet (fail)
                go_wp2_with fail
                go_meet
                case rel => exact ⟨rfl, _, rfl⟩
              case pos =>
                have cutD := run_cut (P := Try.prog) (T := 28) Try.underlying28 hii A Dl cap .i64 .i64 (off : Int) ((off : Int) + (len : Int)) off len rfl rfl (by omega)
                rw [hss] at cutD
                have s1 := fun q => run_str Try.underlying28 Try.underlying5 Try.underlying9 ((Bs.cut (l := off) (k := len) (Hb.out.below hbel9) (by omega)).drewN q)
                have s2 := fun q => run_str Try.underlying28 Try.underlying5 Try.underlying9 ((Hdat.out.below Hb9.out).drewN q)
                clear hii hz hss hby
                go_quiet (fail)
                go_wp2_with fail
                go_meet
                case rel => exact ⟨rfl, _, rfl⟩
          case rest =>
          obtain ⟨h136, q9, hww⟩ := hcut
          subst u136
          have HgA := hid (Hgl2.out.keep (Hb9.out.trans (below_drewN (Below.refl _ _) q9)))
          have HsA := hid (Hsg2.out.keep (Hb9.out.trans (below_drewN (Below.refl _ _) q9)))
          have BA := hid (show Blk wc gs 30 [.int .i64 2049, .int .i64 7, .int .u32 (sq : Int), .int .u32 52, .int .i64 fl, .int .i64 (16384 - ((0 : Nat) : Int)), .int .i64 0, .slice As len cps] by rw [hww]; exact B9.out.drewN q9)
          have HdA := hid (show Bs wc (.slice As len cps) ((D.drop off).take len) by rw [hww]; exact (Hdat.out.below Hb9.out).drewN q9)
          have HbelA := hid (show Below wr.heap.size wr wc by rw [hww]; exact below_drewN Hb9.out q9)
          rw [← hww] at HgA HsA
          clear hww p0 p1 p2 p3 p4 p5 p6 p7 B9 Hdat Hgl2 Hsg2 Hrange Hb9 hcA hcB
          obtain ⟨lo, hlo⟩ : ∃ b, (decide (n + k + 1 ≤ ll) && decide (n + k + 1 < 60) && lost.getD (n + k) false && decide (tries < 4)) = b := ⟨_, rfl⟩
          have Hlo := hid hlo
          have hnk := Hbig.out.2.2.2
          clear hlo
          go_upto_region 29 with fail
          go_cut [157] from 139 to 158 (fun s wx => s = .bool lo ∧ wx = wc)
          case first =>
            as_aux_lemma =>
              have hlo := Hlo.out
              by_cases a1 : n + k + 1 ≤ ll
              · have a1I : (n : Int) + (k : Int) + 1 ≤ (ll : Int) := by omega
                by_cases a2 : n + k + 1 < 60
                · have a2I : (n : Int) + (k : Int) + 1 < 60 := by omega
                  obtain ⟨bl, hbl⟩ : ∃ b, lost.getD (n + k) false = b := ⟨_, rfl⟩
                  have hkl : n + k < lost.length := by rw [Hll.out]; omega
                  obtain ⟨_, Al', cl', hvl, _, _, hcl⟩ := HLo.out
                  injection hvl with e1 e9 e3
                  subst e1
                  subst e3
                  clear e9
                  obtain ⟨gl, ol, rfl, hcl2⟩ := hcl.resolve_left (by omega)
                  have hcl0 : w.cell? ⟨gl, ol + (n + k), none⟩ = some (.bool bl) := hcl2 (n + k) _ (by rw [List.getElem?_map, List.getElem?_eq_getElem hkl]; rw [← hbl]; simp [List.getD, hkl])
                  have hclx := cell_below (((Hb1.out.trans (HgA.out.conn.bel.mono Hb1.out.size)))) hcl0
                  have hcell2 : wc.cell? ⟨gl, ol + (n + k), none⟩ = some (.bool bl) := hclx
                  rw [decide_eq_true a1, decide_eq_true a2, hbl] at hlo
                  clear hcl hcl2 hcl0 hclx hbl hkl
                  cases bl with
                  | false =>
                    as_aux_lemma =>
                      obtain rfl : lo = false := by rw [← hlo]; rfl
                      go_wp2_with fail
                      go_meet
                      case rel => exact ⟨rfl, rfl⟩
                  | true =>
                    as_aux_lemma =>
                      by_cases a4 : tries < 4
                      · have a4I : (tries : Int) < 4 := by omega
                        obtain rfl : lo = true := by rw [← hlo]; simp [a4]
                        go_wp2_with fail
                        go_meet
                        case rel => exact ⟨rfl, rfl⟩
                      · have a4I : ¬ (tries : Int) < 4 := by omega
                        obtain rfl : lo = false := by rw [← hlo]; simp [a4]
                        go_wp2_with fail
                        go_meet
                        case rel => exact ⟨rfl, rfl⟩
                · have a2I : ¬ (n : Int) + (k : Int) + 1 < 60 := by omega
                  obtain rfl : lo = false := by rw [← hlo]; simp [a2]
                  go_wp2_with fail
                  go_meet
                  case rel => exact ⟨rfl, rfl⟩
              · have a1I : ¬ (n : Int) + (k : Int) + 1 ≤ (ll : Int) := by omega
                obtain rfl : lo = false := by rw [← hlo]; simp [a1]
                go_wp2_with fail
                go_meet
                case rel => exact ⟨rfl, rfl⟩
          case rest =>
          obtain ⟨h157, hww⟩ := hcut
          subst u157
          have hww := hww.symm
          subst hww
          have Hk1 := hid (show nq - (k + 1) < nq - k ∧ k + 1 ≤ nq by omega)
          cases lo with
          | true =>
            as_aux_lemma =>
              have hl4 : n + k + 1 < 60 ∧ tries < 4 := by
                have := Hlo.out
                simp only [Bool.and_eq_true, decide_eq_true_eq] at this
                exact ⟨this.1.1.2, this.2⟩
              have Hl4 := hid hl4
              clear hl4
              go_wp2_with fail
              go_roundg (nq - (k + 1))
              case measure => exact Hk1.out.1
              case rel => exact ⟨k + 1, G2, bs ++ [true], h2, e2, Hk1.out.2, rfl, rfl, by go_num, rfl, by go_num, hid ⟨by rw [List.length_append, Hbs.out.1]; rfl, by rw [Hrvs.out true]; rfl, fun e => by have := Hl4.out.2; omega, by rw [cnt_snoc, if_pos rfl]; have := Hbs.out.2.2.1; omega, by rw [cnt_snoc, if_pos rfl]; have := Hbs.out.2.2.1; have := Hl4.out.1; omega, Hbs.out.2.2.2.2.1, Hbs.out.2.2.2.2.2, HgA.out, HsA.out⟩⟩
          | false =>
            as_aux_lemma =>
              obtain ⟨h3, hh3⟩ : ∃ b, (h2 || decide (len > 0) || fb) = b := ⟨_, rfl⟩
              have Hh3 := hid hh3
              have p7 := BA.out.cell 7
              have p4 := BA.out.cell 4
              clear hh3
              go_upto_region 30 with fail
              go_cut [16] from 158 to 171 (fun s wx => s = .bool h3 ∧ wx = wc)
              case first =>
                as_aux_lemma =>
                  have hh3 := Hh3.out
                  cases h2 with
                  | true =>
                    as_aux_lemma =>
                      obtain rfl : h3 = true := by rw [← hh3]; simp
                      go_wp2_with fail
                      go_meet
                      case rel => exact ⟨rfl, rfl⟩
                  | false =>
                    as_aux_lemma =>
                      by_cases hl0 : 0 < len
                      · obtain rfl : h3 = true := by rw [← hh3]; simp [hl0]
                        have hl1 : (len : Int) > 0 := by omega
                        go_wp2_with fail
                        go_meet
                        case rel => exact ⟨rfl, rfl⟩
                      · have hl1 : ¬ (len : Int) > 0 := by omega
                        obtain rfl : h3 = fb := by rw [← hh3]; simp [hl0]
                        go_wp2_with fail
                        go_meet
                        case rel => exact ⟨by first | rfl | simp [hbit], rfl⟩
              case rest =>
              obtain ⟨h16, hww⟩ := hcut
              subst u16
              have hww := hww.symm
              subst hww
              obtain ⟨hb1, hb2, hb3, hb4⟩ := Hbig.out
              have hGG := Hbs.out.2.2.2.2.1
              by_cases hadv : off ≤ G2 ∧ off + len > G2
              case neg =>
                have hadvI : ¬ (off : Int) ≤ (G2 : Int) ∨ ¬ ((off : Int) + (len : Int) > (G2 : Int)) := by omega
                obtain ⟨e3, he3⟩ : ∃ b, (e2 || (fb && decide (off + len = G2) && decide (G2 = D.length))) = b := ⟨_, rfl⟩
                have Hrv := hid (show rvs D.length (qs.take (k + 1)) (bs ++ [false]) (G, false, false) = (G2, h3, e3) by
                  rw [Hrvs.out false, ← he3, ← Hh3.out, ← Hfb.out]
                  unfold rv
                  rw [if_neg (by simp)]
                  simp only [if_neg hadv])
                have He3 := hid he3
                have Hfin := hid (show (bs ++ [false]).length = k + 1 ∧ (tries = 4 → cnt (bs ++ [false]) = 0) ∧ L + cnt (bs ++ [false]) ≤ n + (k + 1) ∧ L + cnt (bs ++ [false]) ≤ 59 from ⟨by rw [List.length_append, Hbs.out.1]; rfl, fun e => by rw [cnt_snoc]; have := Hbs.out.2.1 e; simp; omega, by rw [cnt_snoc]; have := Hbs.out.2.2.1; simp; omega, by rw [cnt_snoc]; have := Hbs.out.2.2.2.1; simp; omega⟩)
                clear he3 hadv
                have hDI : D.length = Dl := HDl.out
                cases fb with
                | false =>
                  as_aux_lemma =>
                    have hbit0 : (bits .and .i64 fl 1 != 0) = false := hbit
                    obtain rfl : e3 = e2 := by rw [← He3.out]; simp
                    rcases hadvI with hadvI | hadvI
                    · go_wp2_with fail
                      go_roundg (nq - (k + 1))
                      case measure => exact Hk1.out.1
                      case rel => exact ⟨k + 1, G2, bs ++ [false], h3, e3, Hk1.out.2, rfl, rfl, by go_num, rfl, by go_num, hid ⟨Hfin.out.1, Hrv.out, Hfin.out.2.1, Hfin.out.2.2.1, Hfin.out.2.2.2, hGG, Hbs.out.2.2.2.2.2, HgA.out, HsA.out⟩⟩
                    · go_wp2_with fail
                      go_roundg (nq - (k + 1))
                      case measure => exact Hk1.out.1
                      case rel => exact ⟨k + 1, G2, bs ++ [false], h3, e3, Hk1.out.2, rfl, rfl, by go_num, rfl, by go_num, hid ⟨Hfin.out.1, Hrv.out, Hfin.out.2.1, Hfin.out.2.2.1, Hfin.out.2.2.2, hGG, Hbs.out.2.2.2.2.2, HgA.out, HsA.out⟩⟩
                | true =>
                  as_aux_lemma =>
                    have hbit0 : (bits .and .i64 fl 1 != 0) = true := hbit
                    by_cases x1 : off + len = G2
                    · have x1b : ((off : Int) + (len : Int) == (G2 : Int)) = true := by simp; omega
                      have hA1 : (off : Int) ≤ (G2 : Int) := by omega
                      have hA2 : ¬ ((off : Int) + (len : Int) > (G2 : Int)) := by omega
                      by_cases x2 : G2 = Dl
                      · have x2b : ((G2 : Int) == (Dl : Int)) = true := by simp; omega
                        obtain rfl : e3 = true := by rw [← He3.out]; simp [x1, x2, hDI]
                        clear x1 x2 hadvI hDI
                        go_wp2_with fail
                        go_roundg (nq - (k + 1))
                        case measure => exact Hk1.out.1
                        case rel => exact ⟨k + 1, G2, bs ++ [false], h3, true, Hk1.out.2, rfl, rfl, by go_num, rfl, by go_num, hid ⟨Hfin.out.1, Hrv.out, Hfin.out.2.1, Hfin.out.2.2.1, Hfin.out.2.2.2, hGG, Hbs.out.2.2.2.2.2, HgA.out, HsA.out⟩⟩
                      · have x2b : ((G2 : Int) == (Dl : Int)) = false := by simp; omega
                        obtain rfl : e3 = e2 := by rw [← He3.out, hDI]; simp [x2]
                        clear x1 x2 hadvI hDI
                        go_wp2_with fail
                        go_roundg (nq - (k + 1))
                        case measure => exact Hk1.out.1
                        case rel => exact ⟨k + 1, G2, bs ++ [false], h3, e3, Hk1.out.2, rfl, rfl, by go_num, rfl, by go_num, hid ⟨Hfin.out.1, Hrv.out, Hfin.out.2.1, Hfin.out.2.2.1, Hfin.out.2.2.2, hGG, Hbs.out.2.2.2.2.2, HgA.out, HsA.out⟩⟩
                    · have x1b : ((off : Int) + (len : Int) == (G2 : Int)) = false := by simp; omega
                      obtain rfl : e3 = e2 := by rw [← He3.out]; simp [x1]
                      clear x1 hDI
                      rcases hadvI with hadvI | hadvI
                      · go_wp2_with fail
                        go_roundg (nq - (k + 1))
                        case measure => exact Hk1.out.1
                        case rel => exact ⟨k + 1, G2, bs ++ [false], h3, e3, Hk1.out.2, rfl, rfl, by go_num, rfl, by go_num, hid ⟨Hfin.out.1, Hrv.out, Hfin.out.2.1, Hfin.out.2.2.1, Hfin.out.2.2.2, hGG, Hbs.out.2.2.2.2.2, HgA.out, HsA.out⟩⟩
                      · go_wp2_with fail
                        go_roundg (nq - (k + 1))
                        case measure => exact Hk1.out.1
                        case rel => exact ⟨k + 1, G2, bs ++ [false], h3, e3, Hk1.out.2, rfl, rfl, by go_num, rfl, by go_num, hid ⟨Hfin.out.1, Hrv.out, Hfin.out.2.1, Hfin.out.2.2.1, Hfin.out.2.2.2, hGG, Hbs.out.2.2.2.2.2, HgA.out, HsA.out⟩⟩
              case pos =>
                obtain ⟨hadv1, hadv2⟩ := hadv
                have hadvI1 : (off : Int) ≤ (G2 : Int) := by omega
                have hadvI2 : (off : Int) + (len : Int) > (G2 : Int) := by omega
                obtain ⟨e3, he3⟩ : ∃ b, (e2 || (fb && decide (off + len = off + len) && decide (off + len = D.length))) = b := ⟨_, rfl⟩
                have Hrv := hid (show rvs D.length (qs.take (k + 1)) (bs ++ [false]) (G, false, false) = (off + len, h3, e3) by
                  rw [Hrvs.out false, ← he3, ← Hh3.out, ← Hfb.out]
                  unfold rv
                  rw [if_neg (by simp)]
                  simp only [if_pos (And.intro hadv1 hadv2)])
                have He3 := hid he3
                have Hfin := hid (show (bs ++ [false]).length = k + 1 ∧ (tries = 4 → cnt (bs ++ [false]) = 0) ∧ L + cnt (bs ++ [false]) ≤ n + (k + 1) ∧ L + cnt (bs ++ [false]) ≤ 59 from ⟨by rw [List.length_append, Hbs.out.1]; rfl, fun e => by rw [cnt_snoc]; have := Hbs.out.2.1 e; simp; omega, by rw [cnt_snoc]; have := Hbs.out.2.2.1; simp; omega, by rw [cnt_snoc]; have := Hbs.out.2.2.2.1; simp; omega⟩)
                have Hpos := hid (show G ≤ off + len ∧ off + len ≤ D.length from ⟨by omega, ho2⟩)
                have hDI : D.length = Dl := HDl.out
                have hLc : len ≤ cps := by obtain ⟨_, _, _, hv, h1, _⟩ := HdA.out; injection hv with _ e8 e3; omega
                have hct := fun wx => cutT_from As len cps ((G2 : Int) - (off : Int)) (G2 - off) (off + len - G2) (by omega) (by omega) hLc wx
                have hsub : IntKind.i64.wrap ((G2 : Int) - (off : Int)) = (G2 : Int) - (off : Int) := IntWalk.i64_in _ (by omega)
                have Htl := hid (Bs.cut (l := G2 - off) (k := off + len - G2) HdA.out (by rw [List.length_take, List.length_drop]; omega))
                have Heq := hid (show D.take G2 ++ (((D.drop off).take len).drop (G2 - off)).take (off + len - G2) = D.take (off + len) by
                  have h1 : (((D.drop off).take len).drop (G2 - off)).take (off + len - G2) = (D.drop G2).take (off + len - G2) := by
                    rw [List.drop_take, List.drop_drop, List.take_take]
                    congr 1
                    · omega
                    · congr 1; omega
                  rw [h1]
                  have h2 : off + len = G2 + (off + len - G2) := by omega
                  conv => rhs; rw [h2, List.take_add])
                have Htlen := hid (show (D.take (off + len)).length = off + len by rw [List.length_take]; omega)
                have HlG := hid (show (D.take G2).length ≤ 6000 ∧ ((((D.drop off).take len).drop (G2 - off)).take (off + len - G2)).length ≤ 6000 by constructor <;> simp <;> omega)
                clear he3 hLc
                go_upto_region 33 with ((with_reducible show wpList _ _ _ (Oper.mk (some 193) _ _ _ _ _ :: _) _ _); refine wpList_app8 _ rfl _ _ 28 rfl w1.heap.size 5 u8ok _ (D.take G2) rfl HgA.out.og _ _ rfl Htl.out (by have := HlG.out; omega) HgA.out.conn.bel.size ?_; intro v3 w3 hown hb hg hat; rw [Heq.out] at hown; have HgB := hid (HgA.out.grow hg hown hat); have HsB := hid (HsA.out.grow hg hat); have BB := hid (BA.out.grown hg (fun q => by have := HneV.out _ q.symm; omega)); obtain ⟨A3, cap3, rfl⟩ := slice_len hown.bs Htlen.out; clear p7 p4 hown hb hg hat; have p7 := BB.out.cell 7; have p4 := BB.out.cell 4)
                clear hct hsub
                cases fb with
                | false =>
                  as_aux_lemma =>
                    have hbit0 : (bits .and .i64 fl 1 != 0) = false := hbit
                    obtain rfl : e3 = e2 := by rw [← He3.out]; simp
                    go_wp2_with fail
                    go_roundg (nq - (k + 1))
                    case measure => exact Hk1.out.1
                    case rel => exact ⟨k + 1, off + len, bs ++ [false], h3, e3, Hk1.out.2, rfl, rfl, by go_num, rfl, by go_num, hid ⟨Hfin.out.1, Hrv.out, Hfin.out.2.1, Hfin.out.2.2.1, Hfin.out.2.2.2, Hpos.out.1, Hpos.out.2, HgB.out, HsB.out⟩⟩
                | true =>
                  as_aux_lemma =>
                    have hbit0 : (bits .and .i64 fl 1 != 0) = true := hbit
                    by_cases x2 : off + len = Dl
                    · have x2b : ((off : Int) + (len : Int) == (Dl : Int)) = true := by simp; omega
                      obtain rfl : e3 = true := by rw [← He3.out]; simp [x2, hDI]
                      clear x2 hDI
                      go_wp2_with fail
                      go_roundg (nq - (k + 1))
                      case measure => exact Hk1.out.1
                      case rel => exact ⟨k + 1, off + len, bs ++ [false], h3, true, Hk1.out.2, rfl, rfl, by go_num, rfl, by go_num, hid ⟨Hfin.out.1, Hrv.out, Hfin.out.2.1, Hfin.out.2.2.1, Hfin.out.2.2.2, Hpos.out.1, Hpos.out.2, HgB.out, HsB.out⟩⟩
                    · have x2b : ((off : Int) + (len : Int) == (Dl : Int)) = false := by simp; omega
                      obtain rfl : e3 = e2 := by rw [← He3.out, hDI]; simp [x2]
                      clear x2 hDI
                      go_wp2_with fail
                      go_roundg (nq - (k + 1))
                      case measure => exact Hk1.out.1
                      case rel => exact ⟨k + 1, off + len, bs ++ [false], h3, e3, Hk1.out.2, rfl, rfl, by go_num, rfl, by go_num, hid ⟨Hfin.out.1, Hrv.out, Hfin.out.2.1, Hfin.out.2.2.1, Hfin.out.2.2.2, Hpos.out.1, Hpos.out.2, HgB.out, HsB.out⟩⟩
        · obtain rfl : k = nq := by omega
          have t4 : ¬ (k : Int) < (k : Int) := by omega
          obtain ⟨hbl, hrv, htr, hc1, hc2, hGG, hGD, hgl, hsg⟩ := Hr.out
          have htk : qs.take k = qs := List.take_of_length_le (by rw [Hnq.out]; exact Nat.le_refl _)
          rw [htk] at hrv
          obtain ⟨hTH, hTN⟩ := goes_turn Hgi.out Hwd.out.1 Hshape.out bs (by rw [hbl, Hnq.out]) hc2 htr
          have hss := shape_sent Hgi.out Hshape.out
          have ht0 := goes_t0 Hgi.out Hshape.out bs (by rw [hbl, Hnq.out]) G2
          rw [hrv] at hTH hTN ht0
          obtain ⟨Av, capv, rfl⟩ := slice_len hgl.og.bs (n := G2) (by rw [List.length_take]; omega)
          have Hgl2 := hid hgl
          have hDn := HDn.out
          have hsn : n + k ≤ 6001 * (turn + 1) := by have := Hn6.out; omega
          have Hsn := hid hsn
          have Hcc := hid (And.intro hc1 hc2)
          obtain ⟨ak, hak⟩ : ∃ x, (fp + G2) % 4294967296 = x := ⟨_, rfl⟩
          have hakI : ((f1 : Int) + (G2 : Int)) % 4294967296 = (ak : Int) := by have := Hfp.out; omega
          have hakL : ak < 4294967296 := by omega
          have Hak := hid hak
          clear hbl hrv htr hc1 hc2 hgl hsg htk Hr hak
          cases h2 with
          | true =>
            as_aux_lemma =>
              obtain ⟨n1, n2, n3, n4, n5⟩ := hTH rfl
              dsimp only at n1 n2 n3 n4 n5
              cases e2 with
              | true =>
                as_aux_lemma =>
                  obtain ⟨m1, m2, m3⟩ := n4 rfl
                  subst m2
                  subst m1
                  obtain ⟨ak2, hak2⟩ : ∃ x, (fp + (D.length + 1)) % 4294967296 = x := ⟨_, rfl⟩
                  have hak2I : ((ak : Int) + 1) % 4294967296 = (ak2 : Int) := by have := Hak.out; omega
                  have hcl := goes_close (i := goInn) (f1 := fp) (w := wd) (D := D) (G := G) (sent := sent') (t := tries) (by omega) hDn (by omega) m3
                  rw [hak2] at hcl
                  have Hcl := hid hcl
                  have HT := hid (take_at Hgl2.out.conn 0 0 52 ak2 16 wd 0 [] none 0 0 (by decide) (by omega) (by omega) (by have := Hwd.out; omega) (Bs.nil _) rfl (by decide) (by decide) (.inl rfl) _ rfl)
                  clear hTH hTN n1 n2 n3 n4 n5 hak2 hcl m3 hss ht0
                  go_wp2_with (go_at_call 16; refine HT.out.mono ?_; rintro e w9 ⟨⟨u, rfl⟩, F6, hc, hfr, hnew⟩; have Hg9 := hid (Hgl2.out.step hc hfr hnew); clear hc hfr hnew)
                  go_roundg (9000 - (turn + 1))
                  case measure => exact Hms.out.1
                  case rel => exact ⟨n + k, L, 0, turn + 1, true, Hms.out.2, rfl, rfl, rfl, rfl, by go_num, Hsn.out, .over _ F6 (by have h := Hg9.out; rw [List.take_length] at h; exact h) Hcl.out.1 Hcl.out.2⟩
              | false =>
                as_aux_lemma =>
                  obtain ⟨m1, m2⟩ := n5 rfl
                  have htk := goes_take (i := goInn) (f1 := fp) (w := wd) (D := D) (G := G) (sent := sent') (fin := fin') (t := tries) rfl (by omega) hDn (by omega) G2 n1 n2 n3 (fun e => ht0 rfl e)
                  have htk' : tTake (goC goInn fp wd D G sent' fin' false tries false) ⟨0, 0, 52, ak, 16, (wd : Int), 0, []⟩ = goC goInn fp wd D G2 (sent' - (G2 - G)) fin' false 0 false := by rw [← Hak.out]; exact htk
                  have HT := hid (take_at Hgl2.out.conn 0 0 52 ak 16 wd 0 [] none 0 0 (by decide) hakL (by omega) (by have := Hwd.out; omega) (Bs.nil _) rfl (by decide) (by decide) (.inl rfl) _ htk')
                  have Hm1 := hid m1
                  have Hm2 := hid m2
                  clear hTH hTN n1 n2 n3 n4 n5 m1 m2 htk htk' hss ht0
                  go_wp2_with (go_at_call 16; refine HT.out.mono ?_; rintro e w9 ⟨⟨u, rfl⟩, F6, hc, hfr, hnew⟩; have Hg9 := hid (Hgl2.out.step hc hfr hnew); clear hc hfr hnew)
                  go_roundg (9000 - (turn + 1))
                  case measure => exact Hms.out.1
                  case rel => exact ⟨n + k, L + cnt bs, 0, turn + 1, false, Hms.out.2, rfl, rfl, rfl, rfl, by go_num, Hsn.out, .runs G2 _ fin' false false F6 Hg9.out Hm1.out (by have := Hm2.out; have := Hm.out; omega) Hcc.out⟩
          | false =>
            as_aux_lemma =>
              obtain ⟨m0, m1, m2, m3, m4⟩ := hTN rfl
              simp only [Prod.mk.injEq, true_and] at m0
              obtain ⟨rfl, rfl⟩ := m0
              have htk := goes_tick (i := goInn) (f1 := fp) (w := wd) (D := D) (G := G2) (sent := sent') (fin := fin') (t := tries) (by omega) m1 m2
              have HT := tick_conn Hgl2.out.conn 6400
              rw [htk] at HT
              have HT := hid HT
              have Hm1 := hid m3
              have Hm2 := hid m4
              have hti : (tries : Int) ≤ 3 := by omega
              clear hTH hTN m1 m2 m3 m4 htk hss ht0
              go_wp2_with (go_at_call 23; refine HT.out.mono ?_; rintro e w9 ⟨⟨u, rfl⟩, hc, hfr⟩; have Hg9 := hid (Hgl2.out.step hc hfr (fun _ q => .inl q)); clear hc hfr)
              go_roundg (9000 - (turn + 1))
              case measure => exact Hms.out.1
              case rel => exact ⟨n + k, L + cnt bs, tries + 1, turn + 1, false, Hms.out.2, rfl, rfl, rfl, by go_num, by go_num, Hsn.out, .runs G2 sent' fin' true false F5 Hg9.out Hm1.out (by have := Hm2.out; have := Hm.out; omega) Hcc.out⟩
end Go.Proofs.Ytahlcjkcdgahkaa
