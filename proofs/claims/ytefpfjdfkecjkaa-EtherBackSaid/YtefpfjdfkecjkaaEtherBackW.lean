/- The walk of EtherBack; the plain laws it stands on. -/
import Derived.Test.YtefpfjdfkecjkaaEthM
namespace Go.Proofs.Ytefpfjdfkecjkaa
open Go Go.RowKit
set_option maxRecDepth 100000

theorem two_eq (v : Nat) : beBytes 2 v = [UInt8.ofNat (v / 256), UInt8.ofNat v] := by simp [beBytes, List.range, List.range.loop]
theorem be_two (k : Nat) (hk : k < 65536) : beVal (beBytes 2 k) = k := by
  rw [two_eq]
  simp only [beVal, List.foldl_cons, List.foldl_nil, UInt8.toNat_ofNat']
  omega
theorem beBytes_two (p q : UInt8) : beBytes 2 (beVal [p, q]) = [p, q] := by
  have hp := p.toNat_lt
  have hq := q.toNat_lt
  rw [two_eq]
  simp only [beVal, List.foldl_cons, List.foldl_nil]
  congr 1
  · apply UInt8.toNat_inj.1
    simp only [UInt8.toNat_ofNat']
    omega
  · congr 1
    apply UInt8.toNat_inj.1
    simp only [UInt8.toNat_ofNat']
    omega
theorem eth_back {f : Frm} {x : List UInt8} (h : eWrite f = (x, 0)) : eParse x = (f, 0) ∧ x.length = 14 + f.body.length := by
  unfold eWrite at h
  split at h
  · injection h with _ h; cases h
  · rename_i hk
    split at h
    · injection h with _ h; cases h
    · rename_i hl
      injection h with h _
      obtain ⟨⟨a0, a1, a2, a3, a4, a5⟩, ⟨b0, b1, b2, b3, b4, b5⟩, kind, body⟩ := f
      simp only at h hk hl ⊢
      have h2 := be_two kind.toNat (by omega)
      obtain ⟨p, q, e⟩ : ∃ p q, beBytes 2 kind.toNat = [p, q] := by
        have h := beBytes_len 2 kind.toNat
        match beBytes 2 kind.toNat, h with
        | [x, y], _ => exact ⟨x, y, rfl⟩
      rw [e] at h h2
      subst h
      have hlen : (Mac.bytes ⟨a0, a1, a2, a3, a4, a5⟩ ++ (Mac.bytes ⟨b0, b1, b2, b3, b4, b5⟩ ++ ([p, q] ++ body))).length = 14 + body.length := by simp [Mac.bytes]; omega
      refine ⟨?_, hlen⟩
      unfold eParse
      rw [hlen, if_neg (by omega)]
      simp [Mac.bytes, macAt, h2]
      omega
theorem eth_forth {b : List UInt8} {f : Frm} (h : eParse b = (f, 0)) : eWrite f = (b, 0) := by
  unfold eParse at h
  split at h
  · injection h with _ h; cases h
  · rename_i hl
    injection h with h _
    subst h
    obtain ⟨a0, a1, a2, a3, a4, a5, b0, b1, b2, b3, b4, b5, k0, k1, r, rfl⟩ := split14 b (by omega)
    have hk : beVal [k0, k1] < 65536 := beVal_lt [k0, k1]
    simp only [List.length_cons] at hl
    unfold eWrite
    simp only [macAt, List.drop_succ_cons, List.drop_zero, List.take_succ_cons, List.take_zero, Int.toNat_natCast, beBytes_two]
    rw [if_neg (by omega), if_neg (by omega)]
    rfl
theorem eth_not {b : List UInt8} {f : Frm} {c : Int} (h : eParse b = (f, c)) (hc : c ≠ 0) : c = 14 ∧ f.body = [] ∧ (b.length < 14 ∨ b.length > 1514) := by
  unfold eParse at h
  split at h
  · rename_i hl
    injection h with h1 h2
    subst h1; subst h2
    exact ⟨rfl, rfl, hl⟩
  · injection h with _ h
    exact absurd h.symm hc

theorem Kept.only {w0 w : World} {l : List (Value × List UInt8)} {bl : List (Nat × TypeId × List Value)} (h : Kept w0 w l bl) (i : Nat) {v : Value} {b : List UInt8} (hi : l[i]? = some (v, b)) : Kept w0 w [(v, b)] [] :=
  ⟨fun p hp => by simp at hp; subst hp; exact h.r i hi, fun _ hp => (by cases hp), h.bel⟩
theorem blk28 {w : World} {g h : Nat} {t u : TypeId} {y0 y1 y2 y3 y4 y5 y6 y7 y8 y9 y10 y11 y12 y13 x0 x1 x2 x3 x4 x5 x6 x7 x8 x9 x10 x11 x12 x13 : Value} (hy : Blk w g t [y0, y1, y2, y3, y4, y5, y6, y7, y8, y9, y10, y11, y12, y13]) (hx : Blk w h u [x0, x1, x2, x3, x4, x5, x6, x7, x8, x9, x10, x11, x12, x13]) : w.cell? ⟨g, 0, none⟩ = some (y0) ∧ w.cell? ⟨g, 1, none⟩ = some (y1) ∧ w.cell? ⟨g, 2, none⟩ = some (y2) ∧ w.cell? ⟨g, 3, none⟩ = some (y3) ∧ w.cell? ⟨g, 4, none⟩ = some (y4) ∧ w.cell? ⟨g, 5, none⟩ = some (y5) ∧ w.cell? ⟨g, 6, none⟩ = some (y6) ∧ w.cell? ⟨g, 7, none⟩ = some (y7) ∧ w.cell? ⟨g, 8, none⟩ = some (y8) ∧ w.cell? ⟨g, 9, none⟩ = some (y9) ∧ w.cell? ⟨g, 10, none⟩ = some (y10) ∧ w.cell? ⟨g, 11, none⟩ = some (y11) ∧ w.cell? ⟨g, 12, none⟩ = some (y12) ∧ w.cell? ⟨g, 13, none⟩ = some (y13) ∧ w.cell? ⟨h, 0, none⟩ = some (x0) ∧ w.cell? ⟨h, 1, none⟩ = some (x1) ∧ w.cell? ⟨h, 2, none⟩ = some (x2) ∧ w.cell? ⟨h, 3, none⟩ = some (x3) ∧ w.cell? ⟨h, 4, none⟩ = some (x4) ∧ w.cell? ⟨h, 5, none⟩ = some (x5) ∧ w.cell? ⟨h, 6, none⟩ = some (x6) ∧ w.cell? ⟨h, 7, none⟩ = some (x7) ∧ w.cell? ⟨h, 8, none⟩ = some (x8) ∧ w.cell? ⟨h, 9, none⟩ = some (x9) ∧ w.cell? ⟨h, 10, none⟩ = some (x10) ∧ w.cell? ⟨h, 11, none⟩ = some (x11) ∧ w.cell? ⟨h, 12, none⟩ = some (x12) ∧ w.cell? ⟨h, 13, none⟩ = some (x13) :=
  ⟨hy.cell 0, hy.cell 1, hy.cell 2, hy.cell 3, hy.cell 4, hy.cell 5, hy.cell 6, hy.cell 7, hy.cell 8, hy.cell 9, hy.cell 10, hy.cell 11, hy.cell 12, hy.cell 13, hx.cell 0, hx.cell 1, hx.cell 2, hx.cell 3, hx.cell 4, hx.cell 5, hx.cell 6, hx.cell 7, hx.cell 8, hx.cell 9, hx.cell 10, hx.cell 11, hx.cell 12, hx.cell 13⟩
set_option maxHeartbeats 4000000 in
theorem etherBack_walk (vb : Value) (b : List UInt8) (v : Value) (f : Frm) (w : World) (h0 : Bs w vb b) (h : Bs w v f.body) :
    Calls Try.prog 4 #[vb, .agg (f.cells v).toArray] w fun e w' => e = .returned (.bool true) ∧ Below w.heap.size w w' := by
  obtain ⟨n, hn⟩ : ∃ n, b.length = n := ⟨_, rfl⟩
  obtain ⟨m, hm⟩ : ∃ n, f.body.length = n := ⟨_, rfl⟩
  obtain ⟨A0, cap0, rfl⟩ := slice_len h0 hn
  obtain ⟨A, cap, rfl⟩ := slice_len h hm
  obtain ⟨x0, x1, x2, x3, x4, x5, x6, x7, x8, x9, x10, x11, hX, hone⟩ : ∃ x0 x1 x2 x3 x4 x5 x6 x7 x8 x9 x10 x11, FrmC f (.slice A m cap) x0 x1 x2 x3 x4 x5 x6 x7 x8 x9 x10 x11 (.int .i64 f.kind) (.slice A m cap) ∧ [x0, x1, x2, x3, x4, x5, x6, x7, x8, x9, x10, x11, .int .i64 f.kind, .slice A m cap] = f.cells (.slice A m cap) := ⟨_, _, _, _, _, _, _, _, _, _, _, _, rfl, rfl⟩
  rw [← hone]
  have HX := hid hX
  have K0 := hid (((Kept.new w).add h0).add h)
  have Hn := hid hn
  have Hm := hid hm
  have hb := ((((Blk.new w 25 #[x0, x1, x2, x3, x4, x5, x6, x7, x8, x9, x10, x11, .int .i64 f.kind, .slice A m cap]))))
  have K1 := hid ((K0.out.step (below_alloc w (.cells #[x0, x1, x2, x3, x4, x5, x6, x7, x8, x9, x10, x11, .int .i64 f.kind, .slice A m cap] 25))).addB hb)
  clear hX hone h h0 hb hn hm
  show Calls _ _ #[_, .agg #[x0, x1, x2, x3, x4, x5, x6, x7, x8, x9, x10, x11, .int .i64 f.kind, .slice A m cap]] _ _
  by_cases hbig : n > 3000
  · have g1 : (n : Int) > 3000 := by omega
    go_enter Try.func4, Try.ntmps4
    go_wp2_with (go_at_call 7; refine (known_any _).mono ?_; rintro e w2 ⟨rfl, hb⟩; have K2 := hid (K1.out.step hb); have c13 := (K2.out.b 0 rfl).cell 13; clear hb)
    go_ret
    exact ⟨rfl, K2.out.bel⟩
  have g1 : ¬ (n : Int) > 3000 := by omega
  by_cases hbig2 : m > 3000
  · have g2 : (m : Int) > 3000 := by omega
    go_enter Try.func4, Try.ntmps4
    go_wp2_with (go_at_call 7; refine (known_any _).mono ?_; rintro e w2 ⟨rfl, hb⟩; have K2 := hid (K1.out.step hb); have c13 := (K2.out.b 0 rfl).cell 13; clear hb)
    go_ret
    exact ⟨rfl, K2.out.bel⟩
  have g2 : ¬ (m : Int) > 3000 := by omega
  have Hl0 := hid (show b.length ≤ 3000 by rw [Hn.out]; omega)
  have Hl1 := hid (show f.body.length ≤ 3000 by rw [Hm.out]; omega)
  rcases hW : eWrite f with ⟨wl, c2⟩
  have HW := hid hW
  obtain ⟨q, hq⟩ : ∃ q, wl.length = q := ⟨_, rfl⟩
  have HQ := hid hq
  rcases hP : eParse b with ⟨f1, c1⟩
  have HP := hid hP
  clear hW hP hq
  go_enter Try.func4, Try.ntmps4
  go_upto_region 6 with (first
    | (go_at_call 7; refine (known_any _).mono ?_; rintro e w2 ⟨rfl, hb⟩; have K2 := hid (K1.out.step hb); have c13 := (K2.out.b 0 rfl).cell 13; clear hb)
    | ((with_reducible show wpList _ _ _ (Oper.mk (some 24) _ _ _ _ _ :: _) _ _); refine wpList_loadBlk rfl _ _ rfl _ rfl _ _ _ (K2.out.b 0 rfl) Try.underlying25 eframeinfo ?_)
    | (go_at_call 10; refine (write_of HX.out wl c2 _ HW.out (K2.out.r 0 rfl)).mono ?_; rintro e w3 ⟨A3, cap3, rfl, hr, hb⟩; rw [HQ.out] at hr ⊢; have K3 := hid ((K2.out.step hb).add hr); clear hr hb))
  clear K0 K1 K2 c13
  have hfix : (c2 = 0 ∧ eParse wl = (f, 0) ∧ wl.length = 14 + m) ∨ (c2 == (0 : Int)) = false := by
    by_cases e : c2 = 0
    · have hw := HW.out
      rw [e] at hw
      obtain ⟨h1, h2⟩ := eth_back hw
      exact .inl ⟨e, h1, by rw [h2, Hm.out]⟩
    · exact .inr (by simpa using e)
  rcases hfix with ⟨rfl, hpw, hlw⟩ | hc2
  · have HPW := hid hpw
    have HLW := hid (show wl.length ≤ 6000 by omega)
    have hq14 : q = 14 + m := by rw [← HQ.out]; exact hlw
    have HQ14 := hid hq14
    clear hpw hlw hq14
    go_upto_region 8 with (first
      | (go_at_call 8; refine (parse_of _ wl f 0 _ HPW.out (K3.out.r 0 rfl) (by have := HLW.out; omega)).mono ?_; rintro e w4 ⟨A4, cap4, y0, y1, y2, y3, y4, y5, y6, y7, y8, y9, y10, y11, rfl, hY, hr, hb⟩; rw [Hm.out] at hY hr ⊢; have HY := hid hY; have HYo := hid hY.one; have K4 := hid ((K3.out.step hb).add hr); clear hY hr hb)
      | ((with_reducible show wpList _ _ _ (Oper.mk none (Op.store _ (Operand.tmp 7 ) _) _ _ _ _ :: _) _ _); refine wpList_storeBlk rfl _ _ _ rfl _ _ rfl rfl _ _ (Blk.new _ _ _) eframeinfo rfl HYo.out ?_; intro w5 hblk hg hsz; have K5 := hid ((K4.out.step (below_new_store hg)).addB hblk); clear hblk hg hsz))
    have hlI : ((q : Int) != IntKind.i64.wrap (14 + (m : Int))) = false := by rw [IntWalk.i64_in _ (by omega)]; have := HQ14.out; simp; omega
    clear K3 K4 HYo
    go_region_held3 (fun wy => wy.cell? ⟨w4.heap.size, 0, none⟩ = some (y0) ∧ wy.cell? ⟨w4.heap.size, 1, none⟩ = some (y1) ∧ wy.cell? ⟨w4.heap.size, 2, none⟩ = some (y2) ∧ wy.cell? ⟨w4.heap.size, 3, none⟩ = some (y3) ∧ wy.cell? ⟨w4.heap.size, 4, none⟩ = some (y4) ∧ wy.cell? ⟨w4.heap.size, 5, none⟩ = some (y5) ∧ wy.cell? ⟨w4.heap.size, 6, none⟩ = some (y6) ∧ wy.cell? ⟨w4.heap.size, 7, none⟩ = some (y7) ∧ wy.cell? ⟨w4.heap.size, 8, none⟩ = some (y8) ∧ wy.cell? ⟨w4.heap.size, 9, none⟩ = some (y9) ∧ wy.cell? ⟨w4.heap.size, 10, none⟩ = some (y10) ∧ wy.cell? ⟨w4.heap.size, 11, none⟩ = some (y11) ∧ wy.cell? ⟨w4.heap.size, 12, none⟩ = some (.int .i64 f.kind) ∧ wy.cell? ⟨w4.heap.size, 13, none⟩ = some (.slice A4 m cap4) ∧ wy.cell? ⟨w.heap.size, 0, none⟩ = some (x0) ∧ wy.cell? ⟨w.heap.size, 1, none⟩ = some (x1) ∧ wy.cell? ⟨w.heap.size, 2, none⟩ = some (x2) ∧ wy.cell? ⟨w.heap.size, 3, none⟩ = some (x3) ∧ wy.cell? ⟨w.heap.size, 4, none⟩ = some (x4) ∧ wy.cell? ⟨w.heap.size, 5, none⟩ = some (x5) ∧ wy.cell? ⟨w.heap.size, 6, none⟩ = some (x6) ∧ wy.cell? ⟨w.heap.size, 7, none⟩ = some (x7) ∧ wy.cell? ⟨w.heap.size, 8, none⟩ = some (x8) ∧ wy.cell? ⟨w.heap.size, 9, none⟩ = some (x9) ∧ wy.cell? ⟨w.heap.size, 10, none⟩ = some (x10) ∧ wy.cell? ⟨w.heap.size, 11, none⟩ = some (x11) ∧ wy.cell? ⟨w.heap.size, 12, none⟩ = some (.int .i64 f.kind) ∧ wy.cell? ⟨w.heap.size, 13, none⟩ = some (.slice A m cap)) (first | exact blk28 (K5.out.b 0 rfl) (K5.out.b 1 rfl) | exact blk28 ((K5.out.b 0 rfl).drew) ((K5.out.b 1 rfl).drew) | exact blk28 (K6.out.b 0 rfl) (K6.out.b 1 rfl) | exact blk28 ((K6.out.b 0 rfl).drew) ((K6.out.b 1 rfl).drew) | exact blk28 (K7.out.b 0 rfl) (K7.out.b 1 rfl) | exact blk28 ((K7.out.b 0 rfl).drew) ((K7.out.b 1 rfl).drew)) (first
      | (go_at_call 12; (with_reducible refine (theirs_of HX.out _).mono ?_); rintro e w6 ⟨rfl, hb⟩; have hb2 : Below w5.heap.size w5 w6 := (by first | exact hb | exact first_below hb); have K6 := hid (K5.out.step hb2); clear hb hb2)
      | (go_at_call 13; (with_reducible refine (same_of HY.out HX.out _ (by first | exact K6.out.r 0 rfl | exact (K6.out.r 0 rfl).drew) (by first | exact K6.out.r 2 rfl | exact (K6.out.r 2 rfl).drew)).mono ?_); rintro e w7 ⟨rfl, hb⟩; have hb2 : Below w6.heap.size w6 w7 := (by first | exact hb | exact first_below hb); have K7 := hid (K6.out.step hb2); clear hb hb2)
      | fail)
    all_goals
      have KT := hid (K7.out.only 3 rfl)
      clear K5 K6 K7
      by_cases hc1 : c1 = 0
      · subst hc1
        have HW1 := hid (eth_forth HP.out)
        clear HX HY HW HQ
        go_wp2_with (first
          | (go_at_call 8; refine (parse_of _ b f1 0 _ HP.out (KT.out.r 0 rfl) (by have := Hl0.out; omega)).mono ?_; rintro e w14 ⟨A14, cap14, z0, z1, z2, z3, z4, z5, z6, z7, z8, z9, z10, z11, rfl, hY, hr, hb⟩; have HZ := hid hY; have HZo := hid hY.one; have K14 := hid ((KT.out.step hb).add hr); clear hY hr hb)
          | ((with_reducible show wpList _ _ _ (Oper.mk none (Op.store _ (Operand.tmp 9 ) _) _ _ _ _ :: _) _ _); refine wpList_storeBlk rfl _ _ _ rfl _ _ rfl rfl _ _ (Blk.new _ _ _) eframeinfo rfl HZo.out ?_; intro w15 hblk hg hsz; have K15 := hid ((K14.out.step (below_new_store hg)).addB hblk); clear hblk hg hsz)
          | ((with_reducible show wpList _ _ _ (Oper.mk (some 61) _ _ _ _ _ :: _) _ _); refine wpList_loadBlk rfl _ _ rfl _ rfl _ _ _ (K15.out.b 0 rfl) Try.underlying25 eframeinfo ?_)
          | (go_at_call 10; refine (write_of HZ.out b 0 _ HW1.out (K15.out.r 0 rfl)).mono ?_; rintro e w16 ⟨A16, cap16, rfl, hr, hb⟩; rw [Hn.out] at hr ⊢; have K16 := hid ((K15.out.step hb).add hr); have s1 := run_str Try.underlying22 Try.underlying5 Try.underlying9 (K16.out.r 0 rfl); have s2 := run_str Try.underlying22 Try.underlying5 Try.underlying9 (K16.out.r 2 rfl); clear hr hb))
        go_ret
        exact ⟨rfl, K16.out.bel⟩
      · obtain ⟨rfl, hnil, hlen⟩ := eth_not HP.out hc1
        have Hnil := hid (show f1.body.length = 0 by rw [hnil]; rfl)
        rw [Hn.out] at hlen
        have hlor : (n : Int) < 14 ∨ ¬ (n : Int) < 14 ∧ (n : Int) > 1514 := by omega
        clear hnil hlen hc1 HX HY HW HQ
        rcases hlor with t1 | ⟨t1, t2⟩
        all_goals
          go_wp2_with (first
            | (go_at_call 8; refine (parse_of _ b f1 14 _ HP.out (KT.out.r 0 rfl) (by have := Hl0.out; omega)).mono ?_; rintro e w14 ⟨A14, cap14, z0, z1, z2, z3, z4, z5, z6, z7, z8, z9, z10, z11, rfl, hY, hr, hb⟩; have HZo := hid hY.one; rw [Hnil.out] at HZo ⊢; have K14 := hid (KT.out.step hb); clear hY hr hb)
            | ((with_reducible show wpList _ _ _ (Oper.mk none (Op.store _ (Operand.tmp 9 ) _) _ _ _ _ :: _) _ _); refine wpList_storeBlk rfl _ _ _ rfl _ _ rfl rfl _ _ (Blk.new _ _ _) eframeinfo rfl HZo.out ?_; intro w15 hblk hg hsz; have K15 := hid ((K14.out.step (below_new_store hg)).addB hblk); have d13 := (K15.out.b 0 rfl).cell 13; clear hblk hg hsz))
          go_ret
          exact ⟨rfl, K15.out.bel⟩
  have KT := hid (K3.out.only 2 rfl)
  have HY := HX
  clear K3
  by_cases hc1 : c1 = 0
  · subst hc1
    have HW1 := hid (eth_forth HP.out)
    clear HX HY HW HQ
    go_wp2_with (first
      | (go_at_call 8; refine (parse_of _ b f1 0 _ HP.out (KT.out.r 0 rfl) (by have := Hl0.out; omega)).mono ?_; rintro e w14 ⟨A14, cap14, z0, z1, z2, z3, z4, z5, z6, z7, z8, z9, z10, z11, rfl, hY, hr, hb⟩; have HZ := hid hY; have HZo := hid hY.one; have K14 := hid ((KT.out.step hb).add hr); clear hY hr hb)
      | ((with_reducible show wpList _ _ _ (Oper.mk none (Op.store _ (Operand.tmp 9 ) _) _ _ _ _ :: _) _ _); refine wpList_storeBlk rfl _ _ _ rfl _ _ rfl rfl _ _ (Blk.new _ _ _) eframeinfo rfl HZo.out ?_; intro w15 hblk hg hsz; have K15 := hid ((K14.out.step (below_new_store hg)).addB hblk); clear hblk hg hsz)
      | ((with_reducible show wpList _ _ _ (Oper.mk (some 61) _ _ _ _ _ :: _) _ _); refine wpList_loadBlk rfl _ _ rfl _ rfl _ _ _ (K15.out.b 0 rfl) Try.underlying25 eframeinfo ?_)
      | (go_at_call 10; refine (write_of HZ.out b 0 _ HW1.out (K15.out.r 0 rfl)).mono ?_; rintro e w16 ⟨A16, cap16, rfl, hr, hb⟩; rw [Hn.out] at hr ⊢; have K16 := hid ((K15.out.step hb).add hr); have s1 := run_str Try.underlying22 Try.underlying5 Try.underlying9 (K16.out.r 0 rfl); have s2 := run_str Try.underlying22 Try.underlying5 Try.underlying9 (K16.out.r 2 rfl); clear hr hb))
    go_ret
    exact ⟨rfl, K16.out.bel⟩
  · obtain ⟨rfl, hnil, hlen⟩ := eth_not HP.out hc1
    have Hnil := hid (show f1.body.length = 0 by rw [hnil]; rfl)
    rw [Hn.out] at hlen
    have hlor : (n : Int) < 14 ∨ ¬ (n : Int) < 14 ∧ (n : Int) > 1514 := by omega
    clear hnil hlen hc1 HX HY HW HQ
    rcases hlor with t1 | ⟨t1, t2⟩
    all_goals
      go_wp2_with (first
        | (go_at_call 8; refine (parse_of _ b f1 14 _ HP.out (KT.out.r 0 rfl) (by have := Hl0.out; omega)).mono ?_; rintro e w14 ⟨A14, cap14, z0, z1, z2, z3, z4, z5, z6, z7, z8, z9, z10, z11, rfl, hY, hr, hb⟩; have HZo := hid hY.one; rw [Hnil.out] at HZo ⊢; have K14 := hid (KT.out.step hb); clear hY hr hb)
        | ((with_reducible show wpList _ _ _ (Oper.mk none (Op.store _ (Operand.tmp 9 ) _) _ _ _ _ :: _) _ _); refine wpList_storeBlk rfl _ _ _ rfl _ _ rfl rfl _ _ (Blk.new _ _ _) eframeinfo rfl HZo.out ?_; intro w15 hblk hg hsz; have K15 := hid ((K14.out.step (below_new_store hg)).addB hblk); have d13 := (K15.out.b 0 rfl).cell 13; clear hblk hg hsz))
      go_ret
      exact ⟨rfl, K15.out.bel⟩
end Go.Proofs.Ytefpfjdfkecjkaa
