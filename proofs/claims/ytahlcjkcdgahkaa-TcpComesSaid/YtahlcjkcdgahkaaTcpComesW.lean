/- The walk of TcpComes. -/
import Derived.Test.YtahlcjkcdgahkaaTcpComesL
import Derived.Deep.CutBlock
namespace Go.Proofs.Ytahlcjkcdgahkaa
open Go Go.RowKit
attribute [local go_sem ↓] Go.wp_at_zero Go.wp_at_succ
set_option maxRecDepth 100000

theorem take_78 {w0 w : World} {g : Nat} {c : TConn} {m : Nat} {F : Nat → Prop} (h : Conn w0 w g c m F) (sq : Nat) (data : List UInt8) (A : Option Addr) (n cap : Nat) (hs : sq < 4294967296) (hd : Bs w (.slice A n cap) data) (hl : data.length = n) (hn : n ≤ 100000) (hm : m ≤ 1000000000) (hf : n = 0 ∨ ∀ k, (Value.slice A n cap).ownBlock = some k → ¬ F k) (c' : TConn) (hc : tTake c ⟨0, 0, sq, 78, 16, 9000, 0, data⟩ = c') :
    Calls Try.prog 16 #[.pointer (some ⟨g, 0, none⟩), .agg #[.int .i64 0, .int .i64 0, .int .u32 (sq : Int), .int .u32 78, .int .i64 16, .int .i64 9000, .int .i64 0, .slice A n cap]] w fun e w' => (∃ u, e = .returned u) ∧ ∃ F', Conn w0 w' g c' (m + n) F' ∧ Frame F w w' ∧ ∀ k, F' k → F k ∨ w.heap.size ≤ k :=
  take_at h 0 0 sq 78 16 9000 0 data A n cap hs (by decide) (by decide) (by decide) hd hl hn hm hf c' hc
theorem out_connF {w0 w : World} {g : Nat} {c : TConn} {m : Nat} {F : Nat → Prop} (h : Conn w0 w g c m F) (l : List TSeg) (hl : (tOut c).1 = l) :
    Calls Try.prog 17 #[.pointer (some ⟨g, 0, none⟩)] w fun e w' => ∃ v', e = .returned v' ∧ OwnSgL w' w.heap.size v' l ∧ Conn w0 w' g (tOut c).2 m F ∧ Frame F w w' := by
  refine (out_any w0.heap.size g c m F w h.inv h.i h.o).mono ?_
  rintro e w' ⟨v', rfl, hown, hi, hf⟩
  have := tOut_ok h.o
  exact ⟨v', rfl, by rw [← hl]; exact hown, h.frameB hi hf (by rw [this.2.1]; exact h.i) this.1, hf⟩
theorem Come.lens {c : TConn} {s1 : Nat} {data got : List UInt8} {k : Nat} {P : Nat → Bool} (h : Come c s1 data got k P) : got.length + c.inn.ready.length ≤ 6000 := by
  have := congrArg List.length h.got
  rw [List.length_append, List.length_take] at this
  have := h.len
  omega
theorem u32w (x : Int) : IntKind.u32.wrap x = x % 4294967296 := by
  simp [IntKind.wrap, IntKind.bits, IntKind.signed]
theorem cell_row {w : World} {gx ox n cap kx m : Nat} {xs : List Value} {u : Value} (h : RowN w 1 (.slice (some ⟨gx, ox, none⟩) n cap) m xs) (hk : xs[kx]? = some u) : w.cell? ⟨gx, ox + kx, none⟩ = some u := by
  obtain ⟨hl, A, c, hv, _, _, h3⟩ := h
  injection hv with e1 _ _
  rcases h3 with h3 | ⟨b, off, hA, hc⟩
  · have := (List.getElem?_eq_some_iff.1 hk).1
    omega
  · rw [hA] at e1
    injection e1 with e1
    injection e1 with e2 e3
    subst e2; subst e3
    exact hc kx u hk
def iv (x : Nat) : Value := .int .i64 (x : Int)
theorem intinfo : (Try.prog.info? 3).map (fun i => (i.zero, i.size, i.bytes)) = some (some (.int .i64 0), 1, 8) := by kernel_rfl
theorem intok : ElemOk Try.prog 38 3 (.int .i64 0) 1 8 := by
  obtain ⟨i, hi, h1, h2, h3⟩ := info_parts intinfo
  exact ⟨Try.underlying38, ⟨i, hi, h1, h2, h3⟩, rfl, by decide, by decide⟩
theorem iv_one (l : List Nat) : ∀ u ∈ l.map iv, u.oneCell' = true := by
  intro u hu
  obtain ⟨x, _, rfl⟩ := List.mem_map.1 hu
  rfl
/-- while the pieces are cut: two rows of the law's own -/
structure Cuts (w2 wr : World) (ns : List Nat) (L : Nat) (A B : Value) : Prop where
  pcs : Pcs ns L
  a : wr.ownsRow w2.heap.size 3 1 A ns.length ((atsOf ns).map iv)
  b : wr.ownsRow w2.heap.size 3 1 B ns.length (ns.map iv)
  ap : ∀ k, A.ownBlock = some k → B.ownBlock ≠ some k
  bel : Below w2.heap.size w2 wr
/-- a row of the law's own: none of the connection's blocks -/
def Mine (F : Nat → Prop) (w : World) (v : Value) : Prop := ∀ k, v.ownBlock = some k → ¬ F k ∧ k < w.heap.size
theorem Mine.step {F F' : Nat → Prop} {w w' : World} {v : Value} (h : Mine F w v) (hz : w.heap.size ≤ w'.heap.size) (hn : ∀ k, F' k → F k ∨ w.heap.size ≤ k) : Mine F' w' v := fun k hk => ⟨fun q => by
  have := h k hk
  rcases hn k q with q | q
  · exact this.1 q
  · omega, by have := (h k hk).2; omega⟩
/-- the connection and the law's rows side by side -/
structure CLaw (w0 wr : World) (g m : Nat) (c : TConn) (F : Nat → Prop) (s1 : Nat) (data got gc : List UInt8) (k : Nat) (P : Nat → Bool) (A B G : Value) (ns : List Nat) : Prop where
  conn : Conn w0 wr g c m F
  come : Come c s1 data gc k P
  ra : RowN wr 1 A ns.length ((atsOf ns).map iv)
  rb : RowN wr 1 B ns.length (ns.map iv)
  og : OwnBs wr w0.heap.size 5 G got
  ma : Mine F wr A
  mb : Mine F wr B
  mg : Mine F wr G
  ga : ∀ k, A.ownBlock = some k → G.ownBlock ≠ some k
  gb : ∀ k, B.ownBlock = some k → G.ownBlock ≠ some k
section
variable {w0 wr w' : World} {g m m' : Nat} {c c' : TConn} {F F' : Nat → Prop} {s1 : Nat} {data got got' gc gc' : List UInt8} {k k' : Nat} {P P' : Nat → Bool} {A B G : Value} {ns : List Nat}
theorem CLaw.step (h : CLaw w0 wr g m c F s1 data got gc k P A B G ns) (hc : Conn w0 w' g c' m' F') (hf : Frame F wr w') (hn : ∀ k, F' k → F k ∨ wr.heap.size ≤ k) (hcome : Come c' s1 data gc' k' P') : CLaw w0 w' g m' c' F' s1 data got gc' k' P' A B G ns :=
  ⟨hc, hcome, RowN.frame h.ra hf (.inr fun k hk => (h.ma k hk).1), RowN.frame h.rb hf (.inr fun k hk => (h.mb k hk).1), hf.own h.og (fun k hk => (h.mg k hk).1), h.ma.step hf.size hn, h.mb.step hf.size hn, h.mg.step hf.size hn, h.ga, h.gb⟩
theorem CLaw.keep (h : CLaw w0 wr g m c F s1 data got gc k P A B G ns) (hb : Below wr.heap.size wr w') : CLaw w0 w' g m c F s1 data got gc k P A B G ns :=
  h.step (h.conn.keep hb) (Below.frameF hb F) (fun _ q => .inl q) h.come
/-- what was received is laid behind -/
theorem CLaw.grow {G' : Value} (h : CLaw w0 wr g m c F s1 data got gc k P A B G ns) (hg : wr.grownBy w' G.ownBlock) (ho : OwnBs w' w0.heap.size 5 G' got') (hat : G'.ownBlock = G.ownBlock ∨ G'.ownBlock = some wr.heap.size) : CLaw w0 w' g m c F s1 data got' gc k P A B G' ns := by
  have hfr : Frame (fun k => G.ownBlock = some k) wr w' := frame_grown hg (fun k hk => hk)
  refine ⟨⟨h.conn.inv.frame hfr (fun k hk q => (h.mg k q).1 hk), h.conn.i, h.conn.o, h.conn.bel.trans (grown_below h.og h.conn.bel.size hg)⟩, h.come, RowN.frame h.ra hfr (.inr fun k hk q => h.ga k hk q), RowN.frame h.rb hfr (.inr fun k hk q => h.gb k hk q), ho, fun k hk => ⟨(h.ma k hk).1, by have := (h.ma k hk).2; have := hg.size; omega⟩, fun k hk => ⟨(h.mb k hk).1, by have := (h.mb k hk).2; have := hg.size; omega⟩, fun k hk => ?_, fun k hk hk2 => ?_, fun k hk hk2 => ?_⟩
  rotate_left
  · rcases hat with e | e
    · rw [e] at hk2; exact h.ga k hk hk2
    · rw [e] at hk2
      injection hk2 with hk2
      have := (h.ma k hk).2
      omega
  · rcases hat with e | e
    · rw [e] at hk2; exact h.gb k hk hk2
    · rw [e] at hk2
      injection hk2 with hk2
      have := (h.mb k hk).2
      omega
  have hlt := (World.ownsRow.lt ho k hk).2
  refine ⟨fun q => ?_, hlt⟩
  rcases hat with e | e
  · rw [e] at hk; exact (h.mg k hk).1 q
  · rw [e] at hk
    injection hk with hk
    have := (h.conn.inv.lt k q).2
    omega
end
set_option maxHeartbeats 8000000 in
theorem tcpComes_walk (v vp vo : Value) (data : List UInt8) (ps os : List Int) (seq : Nat) (hs : seq < 4294967296) (w : World) (h : Bs w v data) (hp : RowN w 1 vp ps.length (ps.map fun x => .int .i64 x)) (ho : RowN w 1 vo os.length (os.map fun x => .int .i64 x)) :
    Calls Try.prog 5 #[v, .int .u32 (seq : Int), vp, vo] w fun e w' => e = .returned (.bool true) ∧ Below w.heap.size w w' := by
  have Hb := hid h
  obtain ⟨L, hL⟩ : ∃ n, data.length = n := ⟨_, rfl⟩
  obtain ⟨A, cap, rfl⟩ := slice_len h hL
  have HL := hid hL
  obtain ⟨pl, hpl⟩ : ∃ n, ps.length = n := ⟨_, rfl⟩
  obtain ⟨ol, hol⟩ : ∃ n, os.length = n := ⟨_, rfl⟩
  rw [hpl] at hp
  rw [hol] at ho
  have Hp := hid hp
  have Ho := hid ho
  obtain ⟨_, Ap, capp, rfl, _, hpm, _⟩ := hp
  obtain ⟨_, Ao, capo, rfl, _, hom, _⟩ := ho
  have hpm2 : pl ≤ 9223372036854775807 := by have h1 := Hp.out; obtain ⟨_, _, _, hv, h3, h4, _⟩ := h1; injection hv with _ _ e3; subst e3; unfold maxLen at h4; omega
  have hom2 : ol ≤ 9223372036854775807 := by have h1 := Ho.out; obtain ⟨_, _, _, hv, h3, h4, _⟩ := h1; injection hv with _ _ e3; subst e3; unfold maxLen at h4; omega
  have Hpl := hid hpl
  have Hol := hid hol
  clear h hL hpl hol hpm hom
  by_cases hbig : L > 6000
  · have t1 : (L : Int) > 6000 := by omega
    clear hbig
    go_enter Try.func5, Try.ntmps5
    go_wp2_with (go_at_call 13; refine (known_any _).mono ?_; rintro e w1 ⟨rfl, hb⟩; have Hb1 := hid hb; clear hb)
    go_ret
    exact ⟨rfl, Hb1.out⟩
  have t1 : ¬ (L : Int) > 6000 := by omega
  have hL6 : L ≤ 6000 := by omega
  have HOp := hid (fun wx => (show Calls Try.prog 14 #[.int .u32 (seq : Int), .int .u32 77, .int .i64 9000] wx _ from opened_any seq 77 9000 hs (by decide) ⟨by decide, by decide⟩ wx))
  clear hbig
  go_enter Try.func5, Try.ntmps5
  go_upto_region 11 with (first
    | (go_at_call 13; refine (known_any _).mono ?_; rintro e w1 ⟨rfl, hb⟩; have Hb1 := hid hb; clear hb)
    | (go_at_call 14; refine (HOp.out _).mono ?_; rintro e w2 ⟨g, F, rfl, hc⟩; have H2 := hid hc; clear hc))
  go_loopg [11, 12, 13, 14] L (fun gk A B s13 s14 wr => ∃ ns : List Nat, gk = L - ns.sum ∧ s13 = .int .i64 (ns.length : Int) ∧ s14 = .int .i64 (ns.sum : Int) ∧ Cuts w2 wr ns L A B)
  case atStart => exact ⟨[], rfl, rfl, rfl, ⟨fun _ h => (by cases h), fun _ h => (by cases h), by simp⟩, World.ownsRow_nil _ _ _ _, World.ownsRow_nil _ _ _ _, fun k hk => (by simp [Value.ownBlock] at hk), Below.refl _ _⟩
  case round =>
    obtain ⟨ns, rfl, rfl, rfl, hC⟩ := hrel
    have HC := hid hC
    obtain ⟨p, hpp⟩ : ∃ p, ns.sum = p := ⟨_, rfl⟩
    obtain ⟨i, hii⟩ : ∃ p, ns.length = p := ⟨_, rfl⟩
    have hip : i ≤ p := by rw [← hpp, ← hii]; exact hC.pcs.len
    have hpL : p ≤ L := by rw [← hpp]; exact hC.pcs.sum
    rw [hpp, hii]
    have Hpp := hid hpp
    have Hii := hid hii
    clear hC hpp hii
    by_cases hlt : p < L
    · have t2 : (p : Int) < (L : Int) := by omega
      go_upto_if 38 with fail
      go_cut [15] from 36 to 48 (fun s wx => ∃ n1 : Nat, 1 ≤ n1 ∧ n1 ≤ 700 ∧ s = .int .i64 (n1 : Int) ∧ wx = wr)
      case first =>
        by_cases hp0 : pl = 0
        · subst hp0
          go_wp2_with fail
          go_meet
          case rel => exact ⟨1, by omega, by omega, rfl, rfl⟩
        · have t3 : (pl : Int) > 0 := by omega
          obtain ⟨ix, hix⟩ : ∃ x, i % pl = x := ⟨_, rfl⟩
          have hixl : ix < pl := by rw [← hix]; exact Nat.mod_lt _ (by omega)
          have hixI : (i : Int) % (pl : Int) = (ix : Int) := by rw [← hix]; exact (Int.natCast_emod i pl).symm
          have hixT : (i : Int).tmod (pl : Int) = (ix : Int) := by rw [← hixI]; exact Int.tmod_eq_emod_of_nonneg (by omega)
          obtain ⟨_, _, _, hv, _, _, hA⟩ := Hp.out
          injection hv with e1 _ e2
          subst e1; subst e2
          obtain ⟨gp, op, rfl, hcell⟩ := hA.resolve_left (by omega)
          have hpx : ix < ps.length := by rw [Hpl.out]; exact hixl
          have hc0 : w.cell? ⟨gp, op + ix, none⟩ = some (.int .i64 ps[ix]) := hcell ix _ (by rw [List.getElem?_map, List.getElem?_eq_getElem hpx]; rfl)
          have hcx : wr.cell? ⟨gp, op + ix, none⟩ = some (.int .i64 ps[ix]) := cell_below (((Hb1.out.trans (H2.out.bel.mono Hb1.out.size)).trans (HC.out.bel.mono (Nat.le_trans Hb1.out.size H2.out.bel.size)))) hc0
          obtain ⟨x, hx⟩ : ∃ x, ps[ix] = x := ⟨_, rfl⟩
          rw [hx] at hcx
          have HWi := hid (within_at x 700 700 wr rfl (by decide) (by decide))
          clear hA hcell hc0 hx hix hpx
          go_wp2_with (go_at_call 15; refine HWi.out.mono ?_; rintro e w' ⟨n0, hn0, rfl, rfl⟩)
          go_meet
          case rel => exact ⟨1 + n0, by omega, by omega, by go_num, rfl⟩
      case rest =>
      obtain ⟨n1, h11, h12, h15, hww⟩ := hcut
      subst u15
      have hww := hww.symm
      subst hww
      go_step
      obtain ⟨n2, hn2⟩ : ∃ x, min n1 (L - p) = x := ⟨_, rfl⟩
      have Hn2 := hid hn2
      have hn21 : 1 ≤ n2 ∧ n2 ≤ 700 ∧ p + n2 ≤ L := by omega
      obtain ⟨d, hd⟩ : ∃ d, L - p = d := ⟨_, rfl⟩
      have hdI : (L : Int) - (p : Int) = (d : Int) := by omega
      have hdn : min n1 d = n2 := by rw [← hd]; exact hn2
      have Hdn := hid hdn
      clear hn2 hd hdn
      go_upto_region 16 with fail
      go_cut [15] from 48 to 54 (fun s wx => s = .int .i64 (n2 : Int) ∧ wx = wr)
      case first =>
        have hdn := Hdn.out
        by_cases h1 : d < n1
        · obtain rfl : n2 = d := by omega
          clear hdn
          go_wp2_with fail
          go_meet
          case rel => exact ⟨rfl, rfl⟩
        · obtain rfl : n2 = n1 := by omega
          clear hdn
          go_wp2_with fail
          go_meet
          case rel => exact ⟨rfl, rfl⟩
      case rest =>
      obtain ⟨h15, hww⟩ := hcut
      subst u15
      have hww := hww.symm
      subst hww
      go_step
      have ha := HC.out.a
      have hb := HC.out.b
      rw [Hii.out] at ha hb
      have Ha := hid ha
      have Hbb := hid hb
      have hz2 : w2.heap.size ≤ wr.heap.size := HC.out.bel.size
      clear ha hb
      go_upto_region 18 with (first
        | ((with_reducible show wpList _ _ _ (Oper.mk (some 57) _ _ _ _ _ :: _) _ _); refine wpList_app _ rfl _ _ 38 rfl w2.heap.size 3 (.int .i64 0) 1 8 intok u11 i ((atsOf ns).map iv) rfl (own_below Ha.out (below_alloc _ _)) _ 1 [.int .i64 (p : Int)] rfl (rowS_lit 1 #[.int .i64 (p : Int)] 1 _ rfl rfl (by simp [maxLen])) (by simp [Value.oneCell']) (by omega) (by simp only [maxLen]; omega) (by simp; omega) ?_; intro vA wA hownA hgA hatA; have hbelA : Below w2.heap.size wr wA := ((Below.refl _ _).alloc hz2 _).trans (grown_below (own_below Ha.out (below_alloc _ _)) (by simp; omega) hgA); have HbelA := hid hbelA; have hbA : wA.ownsRow w2.heap.size 3 1 u12 i (ns.map iv) := World.ownsRow.kept (own_below Hbb.out (below_alloc wr (.cells #[.int .i64 (p : Int)] 3))) hgA (by rcases hv : u12.ownBlock with _ | k2; exact .inl rfl; exact .inr (fun e => HC.out.ap k2 e.symm hv)); have HbA := hid hbA; have HownA := hid hownA; have HatA := hid hatA; clear hownA hgA hatA hbelA hbA)
        | ((with_reducible show wpList _ _ _ (Oper.mk (some 61) _ _ _ _ _ :: _) _ _); refine wpList_app _ rfl _ _ 38 rfl w2.heap.size 3 (.int .i64 0) 1 8 intok u12 i (ns.map iv) rfl (own_below HbA.out (below_alloc _ _)) _ 1 [.int .i64 (n2 : Int)] rfl (rowS_lit 1 #[.int .i64 (n2 : Int)] 1 _ rfl rfl (by simp [maxLen])) (by simp [Value.oneCell']) (by omega) (by simp only [maxLen]; omega) (by have := HbelA.out.size; simp; omega) ?_; intro vB wB hownB hgB hatB; have HownB := hid hownB; have HgB := hid hgB; have HatB := hid hatB; clear hownB hgB hatB))
      have hne : ∀ k, vA.ownBlock = some k → u12.ownBlock ≠ some k := by
        intro k hk hk2
        rcases HatA.out with e | e
        · rw [e] at hk; exact HC.out.ap k hk hk2
        · rw [e] at hk
          injection hk with hk
          have := (World.ownsRow.lt Hbb.out k hk2).2
          simp at hk
          omega
      have haB : wB.ownsRow w2.heap.size 3 1 vA (i + 1) ((atsOf ns).map iv ++ [.int .i64 (p : Int)]) := World.ownsRow.kept (own_below HownA.out (below_alloc wA (.cells #[.int .i64 (n2 : Int)] 3))) HgB.out (by
        rcases hv : vA.ownBlock with _ | k2
        · exact .inl rfl
        · exact .inr (fun e => hne k2 hv e.symm))
      have hap : ∀ k, vA.ownBlock = some k → vB.ownBlock ≠ some k := by
        intro k hk hk2
        rcases HatB.out with e | e
        · rw [e] at hk2; exact hne k hk hk2
        · rw [e] at hk2
          injection hk2 with hk2
          have := (World.ownsRow.lt HownA.out k hk).2
          simp at hk2
          omega
      have hbelB : Below w2.heap.size w2 wB := (HC.out.bel.trans (HbelA.out)).trans (((Below.refl _ _).alloc (by have := HbelA.out.size; omega) _).trans (grown_below (own_below HbA.out (below_alloc _ _)) (by have := HbelA.out.size; simp; omega) HgB.out))
      have HN := hid (show Cuts w2 wB (ns ++ [n2]) L vA vB from ⟨HC.out.pcs.snoc hn21.1 (by omega) (by rw [Hpp.out]; exact hn21.2.2), by rw [List.length_append, List.length_singleton, Hii.out, atsOf_snoc, List.map_append, Hpp.out]; exact haB, by rw [List.length_append, List.length_singleton, Hii.out, List.map_append]; exact HownB.out, hap, hbelB⟩)
      clear hne haB hap hbelB
      go_wp2_with fail
      go_roundg (L - (p + n2))
      case measure => have := Hpp.out; omega
      case rel => exact ⟨ns ++ [n2], by rw [List.sum_append, Hpp.out]; simp, by rw [List.length_append, List.length_singleton, Hii.out]; go_num, by rw [List.sum_append, Hpp.out]; simp, HN.out⟩
    · obtain rfl : p = L := by omega
      have t2 : ¬ (p : Int) < (p : Int) := by omega
      have hz2 : w2.heap.size ≤ wr.heap.size := HC.out.bel.size
      have hF2 : ∀ k, F k → k < w2.heap.size := fun k hk => (H2.out.inv.lt k hk).2
      obtain ⟨s1, hs1⟩ : ∃ x, (seq + 1) % 4294967296 = x := ⟨_, rfl⟩
      have hs1I : ((seq : Int) + 1) % 4294967296 = (s1 : Int) := by omega
      have hs1L : s1 < 4294967296 := by omega
      have hcome0 : Come (tOpen seq 77 9000) s1 data [] 0 (fun _ => false) := by
        refine ⟨idle_open _ _ _, rfl, rfl, rfl, ?_, (fun j hj => by cases hj), rfl, rfl, by rw [HL.out]; exact hL6⟩
        rw [← hs1]
        exact strm_open seq 77 9000 data (by rw [HL.out]; omega)
      have L0 := hid (show CLaw w1 wr g 0 (tOpen seq 77 9000) F s1 data [] [] 0 (fun _ => false) u11 u12 (.slice none 0 0) ns from
        ⟨H2.out.keep HC.out.bel, hcome0, RowN.of_own HC.out.a, RowN.of_own HC.out.b, OwnBs.nil _ _ _, fun k hk => ⟨fun q => by have := (World.ownsRow.lt HC.out.a k hk).1; have := hF2 k q; omega, (World.ownsRow.lt HC.out.a k hk).2⟩, fun k hk => ⟨fun q => by have := (World.ownsRow.lt HC.out.b k hk).1; have := hF2 k q; omega, (World.ownsRow.lt HC.out.b k hk).2⟩, fun k hk => by simp [Value.ownBlock] at hk, fun k _ hk => by simp [Value.ownBlock] at hk, fun k _ hk => by simp [Value.ownBlock] at hk⟩)
      have Hpcs := hid HC.out.pcs
      have Hbel2 := hid (Hb1.out.trans (H2.out.bel.mono Hb1.out.size))
      obtain ⟨_, A1, cap1, rfl, _, _, _⟩ := L0.out.ra
      obtain ⟨_, B1, cap2, rfl, _, _, _⟩ := L0.out.rb
      rw [Hii.out] at L0 ⊢
      clear hs1 hcome0 hF2 HC H2
      go_upto_block 2 with fail
      go_cut [10] from 16 to 145 (fun G wx => ∃ m c F got k P, m ≤ 43000 ∧ CLaw w1 wx g m c F s1 data got got k P (.slice A1 i cap1) (.slice B1 i cap2) G ns)
      case first =>
        go_upto_region 20 with fail
        go_loopg [10, 16] 60 (fun gk G s16 wx => ∃ j m c F got k P, j ≤ 60 ∧ gk = 60 - j ∧ s16 = .int .i64 (j : Int) ∧ m ≤ 701 * j ∧ CLaw w1 wx g m c F s1 data got got k P (.slice A1 i cap1) (.slice B1 i cap2) G ns)
        case atStart => exact ⟨0, _, _, _, _, _, _, by omega, rfl, rfl, by omega, L0.out⟩
        case round =>
          obtain ⟨j, m, c, F', got, kc, P, hj, rfl, rfl, hm, hCL⟩ := hrel
          have HCL := hid hCL
          clear hCL
          by_cases hj1 : j < ol ∧ j < 60 ∧ 0 < i
          case neg =>
            have hmm : m ≤ 43000 := by omega
            by_cases h1 : j < ol
            · by_cases h2 : j < 60
              · have h3 : i = 0 := by omega
                subst h3
                have t3 : (j : Int) < (ol : Int) := by omega
                have t4 : (j : Int) < 60 := by omega
                clear hj1
                go_wp2_with fail
                go_meet
                case rel => exact ⟨m, c, F', got, kc, P, hmm, HCL.out⟩
              · have t3 : (j : Int) < (ol : Int) := by omega
                have t4 : ¬ (j : Int) < 60 := by omega
                clear hj1
                go_wp2_with fail
                go_meet
                case rel => exact ⟨m, c, F', got, kc, P, hmm, HCL.out⟩
            · have t3 : ¬ (j : Int) < (ol : Int) := by omega
              clear hj1
              go_wp2_with fail
              go_meet
              case rel => exact ⟨m, c, F', got, kc, P, hmm, HCL.out⟩
          case pos =>
            obtain ⟨hjo, hj6, hi0⟩ := hj1
            have t3 : (j : Int) < (ol : Int) := by omega
            have t4 : (j : Int) < 60 := by omega
            have t5 : (i : Int) > 0 := by omega
            have hwx : Below w.heap.size w wr := Hb1.out.trans (HCL.out.conn.bel.mono Hb1.out.size)
            have Hwx := hid hwx
            obtain ⟨_, _, _, hv, _, _, hOA⟩ := Ho.out
            injection hv with e1 _ e2
            subst e1; subst e2
            obtain ⟨go_, oo, rfl, hoc⟩ := hOA.resolve_left (by omega)
            have hpo : j < os.length := by rw [Hol.out]; exact hjo
            have hc0 := cell_below hwx (hoc j (.int .i64 os[j]) (by rw [List.getElem?_map, List.getElem?_eq_getElem hpo]; rfl))
            obtain ⟨ox, hox⟩ : ∃ x, os[j] = x := ⟨_, rfl⟩
            rw [hox] at hc0
            have HWi := hid (within_at ox (i : Int) i wr rfl hi0 (by omega))
            clear hox hoc hOA hpo hwx
            go_upto_region 23 with (go_at_call 15; refine HWi.out.mono ?_; rintro e w' ⟨kx, hkx, rfl, rfl⟩)
            obtain ⟨_, _, _, hvA, _, _, hA2⟩ := HCL.out.ra
            injection hvA with e1 e9 e2
            clear e9
            subst e1; subst e2
            obtain ⟨_, _, _, hvB, _, _, hB2⟩ := HCL.out.rb
            injection hvB with e1 e9 e2
            clear e9
            subst e1; subst e2
            obtain ⟨ga, oa, rfl, hAc⟩ := hA2.resolve_left (by rw [Hii.out]; omega)
            obtain ⟨gb, ob, rfl, hBc⟩ := hB2.resolve_left (by rw [Hii.out]; omega)
            have hkn : kx < ns.length := by rw [Hii.out]; exact hkx
            have hts := take_sum_succ ns kx hkn
            have htl := take_sum_le ns (kx + 1)
            have hps := Hpcs.out.sum
            have hpo1 := Hpcs.out.pos ns[kx] (List.getElem_mem hkn)
            have hpo2 := Hpcs.out.few ns[kx] (List.getElem_mem hkn)
            have hqa : ((atsOf ns).map iv)[kx]? = some (iv (ns.take kx).sum) := by rw [List.getElem?_map, atsOf_at ns kx hkn]; rfl
            have hqb : (ns.map iv)[kx]? = some (iv ns[kx]) := by rw [List.getElem?_map, List.getElem?_eq_getElem hkn]; rfl
            obtain ⟨pk, hpk⟩ : ∃ x, (ns.take kx).sum = x := ⟨_, rfl⟩
            obtain ⟨nk, hnk⟩ : ∃ x, ns[kx] = x := ⟨_, rfl⟩
            rw [hpk] at hqa hts
            rw [hnk] at hqb hts hpo1 hpo2
            have qa : wr.cell? ⟨ga, oa + kx, none⟩ = some (.int .i64 (pk : Int)) := hAc kx _ hqa
            have qb : wr.cell? ⟨gb, ob + kx, none⟩ = some (.int .i64 (nk : Int)) := hBc kx _ hqb
            have hpn : pk + nk ≤ p := by omega
            obtain ⟨sq, hsq⟩ : ∃ x, (s1 + pk) % 4294967296 = x := ⟨_, rfl⟩
            have hsqI : ((s1 : Int) + (pk : Int)) % 4294967296 = (sq : Int) := by omega
            have hsqL : sq < 4294967296 := by omega
            have hkq : IntKind.i64.wrap ((pk : Int) + (nk : Int)) = (pk : Int) + (nk : Int) := IntWalk.i64_in _ (by omega)
            have hw1 : IntKind.u32.wrap ((seq : Int) + 1) = (s1 : Int) := by rw [u32w]; exact hs1I
            have hw2 : IntKind.u32.wrap (pk : Int) = (pk : Int) := by rw [u32w]; omega
            have hw3 : IntKind.u32.wrap ((s1 : Int) + (pk : Int)) = (sq : Int) := by rw [u32w]; exact hsqI
            obtain ⟨ii, hii3, hz3, hss3, hby3⟩ := info_parts u8info
            have hLc : p ≤ cap := by obtain ⟨_, _, _, hv, h1, _⟩ := Hb.out; injection hv with _ e8 e3; omega
            have cutD := run_cut (P := Try.prog) (T := 28) Try.underlying28 hii3 A p cap .i64 .i64 (pk : Int) ((pk : Int) + (nk : Int)) pk nk rfl rfl (by omega)
            rw [hss3] at cutD
            have Hbs := hid (Bs.cut (l := pk) (k := nk) Hb.out (by rw [HL.out]; exact hpn))
            obtain ⟨k', P', hT⟩ := HCL.out.come.take pk nk sq (by rw [HL.out]; exact hpn) (by omega) hsq.symm
            obtain ⟨c1, hc1⟩ : ∃ c1, tTake c ⟨0, 0, sq, 78, 16, 9000, 0, (data.drop pk).take nk⟩ = c1 := ⟨_, rfl⟩
            rw [hc1] at hT
            have Hdl := hid (show ((data.drop pk).take nk).length = nk by rw [List.length_take, List.length_drop, HL.out]; omega)
            have HT := hid (fun wx (hx : CLaw w1 wx g m c F' s1 data got got kc P (.slice (some ⟨ga, oa, none⟩) i cap1) (.slice (some ⟨gb, ob, none⟩) i cap2) u10 ns) => take_78 hx.conn sq ((data.drop pk).take nk) (cutA A cap pk 1) nk (cap - pk) hsqL ((Hbs.out.below Hb1.out).below hx.conn.bel) Hdl.out (by omega) (by omega) (hx.conn.farB Hbs.out Hb1.out.size) c1 hc1)
            have HTT := hid hT
            have Hqa := hid hqa
            have Hqb := hid hqb
            have Hts := hid hts
            have Hpk := hid hpk
            clear hT hc1 hAc hBc hA2 hB2 hkn hts htl hps hqa hqb hpk hnk hsq hii3 hz3 hss3 hby3
            go_region_held3 (fun wy => wy.cell? ⟨ga, oa + kx, none⟩ = some (.int .i64 (pk : Int)) ∧ wy.cell? ⟨gb, ob + kx, none⟩ = some (.int .i64 (nk : Int))) (first | exact ⟨qa, qb⟩ | exact ⟨cell_below (below_drew _) qa, cell_below (below_drew _) qb⟩ | exact HS3.out) (first
              | (go_at_call 16; (with_reducible refine (HT.out _ (by first | exact HCL.out | exact HCL.out.keep (below_drew _))).mono ?_); rintro e w3 ⟨⟨u, rfl⟩, F3, hc, hf, hn⟩; have H3 := hid ((show CLaw w1 w3 g (m + nk) c1 F3 s1 data got got k' P' (.slice (some ⟨ga, oa, none⟩) i cap1) (.slice (some ⟨gb, ob, none⟩) i cap2) u10 ns from by first | exact HCL.out.step hc hf hn HTT.out.1 | exact (HCL.out.keep (below_drew _)).step hc hf hn HTT.out.1)); have HS3 := hid (And.intro (cell_row H3.out.ra Hqa.out) (cell_row H3.out.rb Hqb.out)); clear hc hf hn)
              | fail)
            have HOut := hid (out_connF H3.out.conn _ (by rw [out_idle HTT.out.1.idle, if_pos HTT.out.2.1]))
            clear HS3 qa qb hw1 hw2 hw3 hkq cutD HT Hbs hc0 HCL HWi
            go_upto_region 25 with (go_at_call 17; refine HOut.out.mono ?_; rintro e w4 ⟨v4, rfl, ho, hc, hfr⟩; have H4 := hid (H3.out.step (open_ok hc _ (congrArg Prod.snd (out_idle HTT.out.1.idle))) hfr (fun _ q => .inl q) (HTT.out.1.out false)); have Ho4 := hid ho; clear ho hc hfr)
            obtain ⟨b4, cap4, vs4, rfl, _, hcell⟩ := Ho4.out.one_at
            obtain ⟨wn, hwn⟩ : ∃ x : Int, 16384 - (c1.inn.ready.length : Int) = x := ⟨_, rfl⟩
            have hwn2 : ¬ wn > 16384 := by omega
            have p4 : w4.cell? ⟨b4, 4, none⟩ = some (.int .i64 16) := (hcell 4 (by decide)).trans rfl
            have p2 : w4.cell? ⟨b4, 2, none⟩ = some (.int .u32 78) := by rw [hcell 2 (by decide)]; show some (Value.int .u32 ((c1.out.n : Nat) : Int)) = _; rw [HTT.out.1.n]; rfl
            have p5 : w4.cell? ⟨b4, 5, none⟩ = some (.int .i64 wn) := by rw [hcell 5 (by decide), ← hwn]; rfl
            obtain ⟨jr, hjr⟩ : ∃ x, j % 3 = x := ⟨_, rfl⟩
            have hjI : (j : Int) % 3 = (jr : Int) := by omega
            have hjT : (j : Int).tmod 3 = (jr : Int) := by rw [← hjI]; exact Int.tmod_eq_emod_of_nonneg (by omega)
            clear hcell hwn HOut hjr
            by_cases hj2 : jr = 2
            case neg =>
              have hjb : ((jr : Int) == 2) = false := by simp; omega
              clear hj2
              go_wp2_with fail
              go_roundg (60 - (j + 1))
              case measure => omega
              case rel => exact ⟨j + 1, m + nk, _, F3, got, k', P', by omega, rfl, by go_num, by omega, H4.out⟩
            case pos =>
              subst hj2
              have HRe := hid (recv_conn H4.out.conn)
              go_upto_region 28 with fail
              clear p2 p4 p5
              go_wp2_with (first
                | (go_at_call 19; refine HRe.out.mono ?_; rintro e w5 ⟨v5, F5, rfl, hob, hc, hfr, hz5, hsub, hne⟩; have H5 := hid (H4.out.step hc hfr (fun q hq => .inl (hsub q hq)) (HTT.out.1.out false).recv); have Hob := hid hob; have Hz5 := hid (And.intro (hz5.symm ▸ Nat.le_refl _ : w4.heap.size ≤ w5.heap.size) hne); clear hob hc hfr hz5 hsub hne)
                | ((with_reducible show wpList _ _ _ (Oper.mk (some 145) _ _ _ _ _ :: _) _ _); refine wpList_app8 _ rfl _ _ 28 rfl w1.heap.size 5 u8ok _ got rfl H5.out.og v5 c1.inn.ready rfl Hob.out.bs (by have := HTT.out.1.lens; omega) H5.out.conn.bel.size ?_; intro v6 w6 hown6 hb6 hg6 hat6; have H6 := hid (H5.out.grow hg6 hown6 hat6); clear hown6 hb6 hg6 hat6))
              go_roundg (60 - (j + 1))
              case measure => omega
              case rel => exact ⟨j + 1, m + nk, _, F5, _, k', P', by omega, rfl, by go_num, by omega, H6.out⟩
      case rest =>
      obtain ⟨m0, c0, F0, got, k0, P0, hm0, hCL⟩ := hcut
      have L1 := hid hCL
      clear hCL L0
      go_step
      go_upto_block 4 with fail
      go_cut [19] from 146 to 177 (fun s wx => ∃ m c F k P, m ≤ 43000 + 701 * 6000 ∧ CLaw w1 wx g m c F s1 data got got k P (.slice A1 i cap1) (.slice B1 i cap2) u10 ns ∧ ∀ q, q < p → q < k ∨ P q = true)
      case first =>
        go_upto_region 30 with fail
        go_loopg [19] i (fun gk s19 wx => ∃ j m c F k P, j ≤ i ∧ gk = i - j ∧ s19 = .int .i64 (j : Int) ∧ m ≤ 43000 + 701 * j ∧ CLaw w1 wx g m c F s1 data got got k P (.slice A1 i cap1) (.slice B1 i cap2) u10 ns ∧ ∀ q, q < (ns.take j).sum → q < k ∨ P q = true)
        case atStart => exact ⟨0, _, _, _, _, _, by omega, rfl, rfl, by omega, L1.out, fun q hq => by simp at hq⟩
        case round =>
          obtain ⟨kx, m, c, F', kc, P, hj, rfl, rfl, hm, hCL, hpre⟩ := hrel
          have HCL := hid hCL
          have Hpre := hid hpre
          clear hCL hpre
          by_cases hkx : kx < i
          case neg =>
            obtain rfl : kx = i := by omega
            have t3 : ¬ (kx : Int) < (kx : Int) := by omega
            clear hkx
            go_wp2_with fail
            go_meet
            case rel => exact ⟨m, c, F', kc, P, by omega, HCL.out, fun q hq => Hpre.out q (by rw [List.take_of_length_le (by rw [Hii.out]; exact Nat.le_refl _), Hpp.out]; exact hq)⟩
          case pos =>
            have t3 : (kx : Int) < (i : Int) := by omega
            go_upto_region 32 with fail
            obtain ⟨_, _, _, hvA, _, _, hA2⟩ := HCL.out.ra
            injection hvA with e1 e9 e2
            clear e9
            subst e1; subst e2
            obtain ⟨_, _, _, hvB, _, _, hB2⟩ := HCL.out.rb
            injection hvB with e1 e9 e2
            clear e9
            subst e1; subst e2
            obtain ⟨ga, oa, rfl, hAc⟩ := hA2.resolve_left (by rw [Hii.out]; omega)
            obtain ⟨gb, ob, rfl, hBc⟩ := hB2.resolve_left (by rw [Hii.out]; omega)
            have hkn : kx < ns.length := by rw [Hii.out]; exact hkx
            have hts := take_sum_succ ns kx hkn
            have htl := take_sum_le ns (kx + 1)
            have hps := Hpcs.out.sum
            have hpo1 := Hpcs.out.pos ns[kx] (List.getElem_mem hkn)
            have hpo2 := Hpcs.out.few ns[kx] (List.getElem_mem hkn)
            have hqa : ((atsOf ns).map iv)[kx]? = some (iv (ns.take kx).sum) := by rw [List.getElem?_map, atsOf_at ns kx hkn]; rfl
            have hqb : (ns.map iv)[kx]? = some (iv ns[kx]) := by rw [List.getElem?_map, List.getElem?_eq_getElem hkn]; rfl
            obtain ⟨pk, hpk⟩ : ∃ x, (ns.take kx).sum = x := ⟨_, rfl⟩
            obtain ⟨nk, hnk⟩ : ∃ x, ns[kx] = x := ⟨_, rfl⟩
            rw [hpk] at hqa hts
            rw [hnk] at hqb hts hpo1 hpo2
            have qa : wr.cell? ⟨ga, oa + kx, none⟩ = some (.int .i64 (pk : Int)) := hAc kx _ hqa
            have qb : wr.cell? ⟨gb, ob + kx, none⟩ = some (.int .i64 (nk : Int)) := hBc kx _ hqb
            have hpn : pk + nk ≤ p := by omega
            obtain ⟨sq, hsq⟩ : ∃ x, (s1 + pk) % 4294967296 = x := ⟨_, rfl⟩
            have hsqI : ((s1 : Int) + (pk : Int)) % 4294967296 = (sq : Int) := by omega
            have hsqL : sq < 4294967296 := by omega
            have hkq : IntKind.i64.wrap ((pk : Int) + (nk : Int)) = (pk : Int) + (nk : Int) := IntWalk.i64_in _ (by omega)
            have hw1 : IntKind.u32.wrap ((seq : Int) + 1) = (s1 : Int) := by rw [u32w]; exact hs1I
            have hw2 : IntKind.u32.wrap (pk : Int) = (pk : Int) := by rw [u32w]; omega
            have hw3 : IntKind.u32.wrap ((s1 : Int) + (pk : Int)) = (sq : Int) := by rw [u32w]; exact hsqI
            obtain ⟨ii, hii3, hz3, hss3, hby3⟩ := info_parts u8info
            have hLc : p ≤ cap := by obtain ⟨_, _, _, hv, h1, _⟩ := Hb.out; injection hv with _ e8 e3; omega
            have cutD := run_cut (P := Try.prog) (T := 28) Try.underlying28 hii3 A p cap .i64 .i64 (pk : Int) ((pk : Int) + (nk : Int)) pk nk rfl rfl (by omega)
            rw [hss3] at cutD
            have Hbs := hid (Bs.cut (l := pk) (k := nk) Hb.out (by rw [HL.out]; exact hpn))
            obtain ⟨k', P', hT⟩ := HCL.out.come.take pk nk sq (by rw [HL.out]; exact hpn) (by omega) hsq.symm
            obtain ⟨c1, hc1⟩ : ∃ c1, tTake c ⟨0, 0, sq, 78, 16, 9000, 0, (data.drop pk).take nk⟩ = c1 := ⟨_, rfl⟩
            rw [hc1] at hT
            have Hdl := hid (show ((data.drop pk).take nk).length = nk by rw [List.length_take, List.length_drop, HL.out]; omega)
            have HT := hid (fun wx (hx : CLaw w1 wx g m c F' s1 data got got kc P (.slice (some ⟨ga, oa, none⟩) i cap1) (.slice (some ⟨gb, ob, none⟩) i cap2) u10 ns) => take_78 hx.conn sq ((data.drop pk).take nk) (cutA A cap pk 1) nk (cap - pk) hsqL ((Hbs.out.below Hb1.out).below hx.conn.bel) Hdl.out (by omega) (by omega) (hx.conn.farB Hbs.out Hb1.out.size) c1 hc1)
            have HTT := hid hT
            have Hqa := hid hqa
            have Hqb := hid hqb
            have Hts := hid hts
            have Hpk := hid hpk
            clear hT hc1 hAc hBc hA2 hB2 hkn hts htl hps hqa hqb hpk hnk hsq hii3 hz3 hss3 hby3
            go_region_held3 (fun wy => wy.cell? ⟨ga, oa + kx, none⟩ = some (.int .i64 (pk : Int)) ∧ wy.cell? ⟨gb, ob + kx, none⟩ = some (.int .i64 (nk : Int))) (first | exact ⟨qa, qb⟩ | exact ⟨cell_below (below_drew _) qa, cell_below (below_drew _) qb⟩ | exact HS3.out) (first
              | (go_at_call 16; (with_reducible refine (HT.out _ (by first | exact HCL.out | exact HCL.out.keep (below_drew _))).mono ?_); rintro e w3 ⟨⟨u, rfl⟩, F3, hc, hf, hn⟩; have H3 := hid ((show CLaw w1 w3 g (m + nk) c1 F3 s1 data got got k' P' (.slice (some ⟨ga, oa, none⟩) i cap1) (.slice (some ⟨gb, ob, none⟩) i cap2) u10 ns from by first | exact HCL.out.step hc hf hn HTT.out.1 | exact (HCL.out.keep (below_drew _)).step hc hf hn HTT.out.1)); have HS3 := hid (And.intro (cell_row H3.out.ra Hqa.out) (cell_row H3.out.rb Hqb.out)); clear hc hf hn)
              | fail)
            clear HS3 qa qb hw1 hw2 hw3 hkq cutD HT Hbs HCL
            go_wp2_with fail
            go_roundg (i - (kx + 1))
            case measure => omega
            case rel => exact ⟨kx + 1, m + nk, _, F3, k', P', by omega, rfl, by go_num, by omega, H3.out, fun q hq => HTT.out.2.2.2 q (by
              rw [Hts.out] at hq
              have := Hpre.out q
              rw [Hpk.out] at this
              by_cases hqp : q < pk
              · rcases this hqp with h1 | h1
                · exact .inl h1
                · exact .inr (.inl h1)
              · exact .inr (.inr ⟨by omega, by omega⟩))⟩
      case rest =>
      obtain ⟨m3, c3, F3, k3, P3, hm3, hCL, hall⟩ := hcut
      have L3 := hid hCL
      have hk3 : k3 = data.length := hCL.come.all (by rw [HL.out]; exact hall)
      have hgot : got ++ c3.inn.ready = data := by rw [hCL.come.got, hk3, List.take_length]
      have Hk3 := hid hk3
      have Hgot := hid hgot
      have HRe := hid (recv_conn hCL.conn)
      have hrl : got.length + c3.inn.ready.length ≤ 6000 := hCL.come.lens
      clear hCL hall hk3 hgot L1
      go_step
      go_upto_region 34 with (first
        | (go_at_call 19; refine HRe.out.mono ?_; rintro e w5 ⟨v5, F5, rfl, hob, hc, hfr, hz5, hsub, hne⟩; have H5 := hid (L3.out.step hc hfr (fun q hq => .inl (hsub q hq)) L3.out.come.recv); have Hob := hid hob; clear hob hc hfr hz5 hsub hne)
        | ((with_reducible show wpList _ _ _ (Oper.mk (some 181) _ _ _ _ _ :: _) _ _); refine wpList_app8 _ rfl _ _ 28 rfl w1.heap.size 5 u8ok _ got rfl H5.out.og v5 c3.inn.ready rfl Hob.out.bs (by omega) H5.out.conn.bel.size ?_; intro v6 w6 hown6 hb6 hg6 hat6; have H6 := hid (H5.out.grow hg6 hown6 hat6); clear hown6 hb6 hg6 hat6))
      have HOut := hid (out_connF H6.out.conn _ rfl)
      go_upto_region 35 with (go_at_call 17; refine HOut.out.mono ?_; rintro e w7 ⟨v7, rfl, ho, hc, hfr⟩; rw [out_idle H6.out.come.idle] at hc; have H7 := hid (H6.out.step hc hfr (fun _ q => .inl q) (H6.out.come.out false)); clear ho hc hfr)
      obtain ⟨sq, hsq⟩ : ∃ x, (s1 + p) % 4294967296 = x := ⟨_, rfl⟩
      have hsqI : ((s1 : Int) + (p : Int)) % 4294967296 = (sq : Int) := by omega
      have hsqL : sq < 4294967296 := by omega
      obtain ⟨aq, haq⟩ : ∃ x, (sq + 1) % 4294967296 = x := ⟨_, rfl⟩
      obtain ⟨a1, ha1⟩ : ∃ x, (seq + 2) % 4294967296 = x := ⟨_, rfl⟩
      have ha1I : ((seq : Int) + 2) % 4294967296 = (a1 : Int) := by omega
      have haqI : ((a1 : Int) + (p : Int)) % 4294967296 = (aq : Int) := by omega
      have hw1 : IntKind.u32.wrap ((seq : Int) + 1) = (s1 : Int) := by rw [u32w]; exact hs1I
      have hw2 : IntKind.u32.wrap (p : Int) = (p : Int) := by rw [u32w]; omega
      have hw3 : IntKind.u32.wrap ((s1 : Int) + (p : Int)) = (sq : Int) := by rw [u32w]; exact hsqI
      have hw4 : IntKind.u32.wrap ((seq : Int) + 2) = (a1 : Int) := by rw [u32w]; exact ha1I
      have hw5 : IntKind.u32.wrap ((a1 : Int) + (p : Int)) = (aq : Int) := by rw [u32w]; exact haqI
      obtain ⟨c8, hc8, hst8, hrd8, _, sg, ho8, hak8⟩ := H7.out.come.fin rfl Hk3.out sq (by rw [HL.out]; exact hsq.symm)
      have Hc8 := hid (And.intro hst8 hrd8)
      have Ho8 := hid ho8
      have HT := hid (take_at H7.out.conn 0 0 sq 78 17 9000 0 [] none 0 0 hsqL (by decide) (by decide) (by decide) (Bs.nil _) rfl (by decide) (by omega) (.inl rfl) c8 hc8)
      have Hak := hid (hak8.trans haq)
      clear hc8 hst8 hrd8 ho8 hak8 HOut HRe
      go_upto_region 36 with (go_at_call 16; refine HT.out.mono ?_; rintro e w8 ⟨⟨u, rfl⟩, F8, hc, hf, hn⟩; have H8 := hid hc; have Og8 := hid (hf.own H7.out.og (fun k hk => (H7.out.mg k hk).1)); have Mg8 := hid (H7.out.mg.step hf.size hn); clear hc hf hn)
      have HOut := hid (out_connF H8.out [sg] (congrArg Prod.fst Ho8.out))
      go_upto_region 37 with (go_at_call 17; refine HOut.out.mono ?_; rintro e w9 ⟨v9, rfl, ho, hc, hfr⟩; rw [Ho8.out] at hc; have H9 := hid hc; have Ho9 := hid ho; have Og9 := hid (show OwnBs w9 w1.heap.size 5 v6 (got ++ c3.inn.ready) from hfr.own Og8.out (fun k hk => (Mg8.out k hk).1)); clear ho hc hfr)
      obtain ⟨b9, cap9, vs9, rfl, _, hcell⟩ := Ho9.out.one_at
      have p3 : w9.cell? ⟨b9, 3, none⟩ = some (.int .u32 (aq : Int)) := by rw [hcell 3 (by decide), ← Hak.out]; rfl
      have s6 := run_str Try.underlying28 Try.underlying5 Try.underlying9 Og9.out.bs
      rw [Hgot.out] at s6
      have s7 := run_str Try.underlying28 Try.underlying5 Try.underlying9 ((Hb.out.below Hb1.out).below H9.out.bel)
      have HS := hid (state_conn H9.out 3 Hc8.out.1)
      have hRe := recv_conn H9.out
      rw [show ({ c8 with acks := false } : TConn).inn.ready = [] from Hc8.out.2] at hRe
      have HRe := hid hRe
      clear hRe hcell HOut hsq haq ha1
      go_wp2_with (first
        | (go_at_call 18; refine HS.out.mono ?_; rintro e w' ⟨rfl, rfl⟩)
        | (go_at_call 19; refine HRe.out.mono ?_; rintro e wA ⟨vA, FA, rfl, ho, hc, _⟩; have HA := hid hc; obtain ⟨AA, capA, rfl⟩ := slice_len ho.bs (n := 0) rfl; clear ho hc))
      go_ret
      exact ⟨rfl, Hb1.out.trans (HA.out.bel.mono Hb1.out.size)⟩
end Go.Proofs.Ytahlcjkcdgahkaa
