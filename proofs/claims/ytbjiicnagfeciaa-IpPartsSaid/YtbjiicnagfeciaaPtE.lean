/- What a part is beside those that are there. -/
import Derived.Test.YtbjiicnagfeciaaPtEq
import Derived.Test.YtbjiicnagfeciaaIpCutA
import Derived.Deep.CutRange
namespace Go.Proofs.Ytbjiicnagfeciaa
open Go Go.RowKit
attribute [local go_sem ↓] Go.wp_at_zero Go.wp_at_succ
set_option maxRecDepth 100000

theorem rowS_at {w : World} {n : Nat} {v : Value} {qs : List (Pk × Value)} (h : RowN w 9 v n (pkRow qs)) (hn : qs.length = n) {A : Option Addr} {cap : Nat} (hv : v = .slice A n cap) (k : Nat) (hk : k < n) :
    ∃ g off, A = some ⟨g, off, none⟩ ∧ ∀ j u, (pkCells (qs[k]'(by omega)).1 (qs[k]'(by omega)).2)[j]? = some u → w.cell? ⟨g, off + k * 9 + j, none⟩ = some u := by
  subst hv
  obtain ⟨_, A', cap', hv, _, _, hc⟩ := h
  injection hv with e1 _ e3
  subst e1; subst e3
  rcases hc with h0 | ⟨g, off, rfl, hc⟩
  · omega
  · refine ⟨g, off, rfl, fun j u hu => ?_⟩
    have hj : j < 9 := by have := (List.getElem?_eq_some_iff.1 hu).1; rw [pkCells_len] at this; exact this
    have := hc (9 * k + j) u (by rw [pkRow_at qs k j (by omega) hj]; exact hu)
    rw [show off + k * 9 + j = off + (9 * k + j) by omega]
    exact this
theorem any_snoc {α : Type} (l : List α) (k : Nat) (hk : k < l.length) (p : α → Bool) : (l.take (k + 1)).any p = ((l.take k).any p || p l[k]) := by
  rw [take_snoc l k hk, List.any_append]; simp

set_option maxHeartbeats 4000000 in
theorem beside_at (base : Nat) (x : WIt) (F : Nat → Prop) (v : Value) (p : Pk) (w : World) (hit : ItAt w base x F) (hok : x.w.Ok) (hp : pWrong p = false) (hmany : x.qs.length ≤ 100000) (h : Bs w v p.body) :
    Calls Try.prog 38 #[ptrV (some x.g), .agg (pkCells p v).toArray] w fun e w' => e = .returned (.int .i64 (pBeside x.w.parts x.w.fin p)) ∧ Below w.heap.size w w' := by
  obtain ⟨hp1, hp2⟩ := pWrong_no hp
  obtain ⟨src, dst, proto, id, off, more, whole, ttl, body⟩ := p
  obtain ⟨A, cap, rfl, k1, k2, _⟩ := h.cells
  have HP := hid h
  clear h hp
  simp only at k1 HP
  simp only [Pk.to] at hp1 hp2
  obtain ⟨gx, hgx⟩ : ∃ g, x.g = g := ⟨_, rfl⟩
  have Hgx := hid hgx
  have Hit := hid hit
  have Hok := hid hok
  have c4 : w.cell? ⟨gx, 4, none⟩ = some x.pv := by rw [← hgx]; exact hit.blk.cell 4
  have c5 : w.cell? ⟨gx, 5, none⟩ = some (.int .i64 x.w.fin) := by rw [← hgx]; exact hit.blk.cell 5
  obtain ⟨n, hn⟩ : ∃ n, x.qs.length = n := ⟨_, rfl⟩
  rw [hn] at hmany
  have Hn := hid hn
  have hrow := hit.row.rowN
  rw [hn] at hrow
  obtain ⟨_, B, capB, hpv, hcB1, hcB2, _⟩ := (show RowN w 9 x.pv n (pkRow x.qs) from hrow)
  have Hpv := hid hpv
  rw [hpv] at c4
  have hfin := hok.fin
  have HR := hid hrow
  obtain ⟨fin, hfn⟩ : ∃ z, x.w.fin = z := ⟨_, rfl⟩
  rw [hfn] at c5 hfin
  have Hfn := hid hfn
  have hcB : capB ≤ 9223372036854775807 := by simp only [maxLen] at hcB2; omega
  have hpl : x.w.parts.length = n := by rw [← hit.fst, List.length_map, hn]
  have Hpl := hid hpl
  rw [hgx, hfn]
  clear hit hok hgx hrow hpv hfn hn hcB2 hpl
  dsimp only [pkCells]
  unfold ptrV
  have K0 := hid (below_alloc w (.cells #[.int .u32 (src : Int), .int .u32 (dst : Int), .int .i64 proto, .int .i64 id, .int .i64 off, .bool more, .bool whole, .int .i64 ttl, .slice A body.length cap] 25))
  have c4' : (w.alloc (.cells #[.int .u32 (src : Int), .int .u32 (dst : Int), .int .i64 proto, .int .i64 id, .int .i64 off, .bool more, .bool whole, .int .i64 ttl, .slice A body.length cap] 25)).cell? ⟨gx, 4, none⟩ = some (.slice B n capB) := cell_below K0.out c4
  have hto : IntKind.i64.wrap (off + (body.length : Int)) = off + (body.length : Int) := IntWalk.i64_in _ (by omega)
  go_enter Try.func38, Try.ntmps38
  go_wp2_with (fail)
  go_loopg [6, 21] n (fun gk s6 s21 wr => ∃ kk : Nat, kk ≤ n ∧ n - kk ≤ gk ∧ (∃ c6 : Int, s6 = .int .i64 c6 ∧ Hid (c6 = if (x.w.parts.take kk).any (pClash · ⟨src, dst, proto, id, off, more, whole, ttl, body⟩) then 2 else 0)) ∧ s21 = .int .i64 (kk : Int) ∧ Below w.heap.size w wr ∧ Blk wr w.heap.size 25 [.int .u32 (src : Int), .int .u32 (dst : Int), .int .i64 proto, .int .i64 id, .int .i64 off, .bool more, .bool whole, .int .i64 ttl, .slice A body.length cap] ∧ Hid ((x.w.parts.take kk).any (pSame · ⟨src, dst, proto, id, off, more, whole, ttl, body⟩) = false))
  case atStart => exact ⟨0, Nat.zero_le _, by omega, ⟨0, rfl, hid rfl⟩, rfl, K0.out, Blk.new w 25 _, hid rfl⟩
  case round =>
    obtain ⟨kk, hkk, hgk, ⟨c6, rfl, HC6⟩, rfl, hbel, hpb, HS⟩ := hrel
    have q3 : wr.cell? ⟨w.heap.size, 4, none⟩ = some (.int .i64 off) := hpb.cell 4
    have q5 : wr.cell? ⟨w.heap.size, 5, none⟩ = some (.bool more) := hpb.cell 5
    have q8 : wr.cell? ⟨w.heap.size, 8, none⟩ = some (.slice A body.length cap) := hpb.cell 8
    by_cases hkl : kk < n
    · have hkI : (kk : Int) < (n : Int) := by omega
      have hkp : kk < x.w.parts.length := by rw [Hpl.out]; exact hkl
      have hkq : kk < x.qs.length := by rw [Hn.out]; exact hkl
      obtain ⟨gB, oB, rfl, hcell⟩ := rowS_at (HR.out.keep (fun p u hp => cell_below hbel hp)) Hn.out Hpv.out kk hkl
      have hPk : x.qs[kk].1 = x.w.parts[kk] := by
        have := Hit.out.fst
        simp [← this]
      have hbody := ((Hit.out.bod x.qs[kk] (List.getElem_mem hkq)).bs).below hbel
      have hPok := Hok.out.off x.w.parts[kk] (List.getElem_mem hkp)
      have hHS : ((x.w.parts.take (kk + 1)).any (pSame · ⟨src, dst, proto, id, off, more, whole, ttl, body⟩)) = (pSame x.w.parts[kk] ⟨src, dst, proto, id, off, more, whole, ttl, body⟩) := by rw [any_snoc _ _ hkp, HS.out, Bool.false_or]
      have hHC := any_snoc x.w.parts kk hkp (pClash · ⟨src, dst, proto, id, off, more, whole, ttl, body⟩)
      have hmem : ∀ b, pSame x.w.parts[kk] ⟨src, dst, proto, id, off, more, whole, ttl, body⟩ = b → b = true → x.w.parts.any (pSame · ⟨src, dst, proto, id, off, more, whole, ttl, body⟩) = true := fun b hb ht => List.any_eq_true.2 ⟨_, List.getElem_mem hkp, by rw [← ht, ← hb]⟩
      rw [hPk] at hcell hbody
      generalize x.qs[kk].2 = u at hcell hbody
      generalize x.w.parts[kk] = P at hcell hbody hPok hHS hHC hmem
      have HHS := hid hHS
      have HHC := hid hHC
      have Hmem := hid hmem
      obtain ⟨s1, d1, pr1, id1, of1, mo1, wh1, tt1, bd1⟩ := P
      obtain ⟨_, U, cu, rfl, k3, k4, _⟩ := (show Bs wr u bd1 from hbody)
      have HX := hid hbody
      have HPb := hid (HP.out.below hbel)
      have Hpb := hid hpb
      have Hbel := hid hbel
      have e0 : wr.cell? ⟨gB, oB + kk * 9, none⟩ = some (.int .u32 (s1 : Int)) := hcell 0 _ rfl
      have e1 : wr.cell? ⟨gB, oB + kk * 9 + 1, none⟩ = some (.int .u32 (d1 : Int)) := hcell 1 _ rfl
      have e2 : wr.cell? ⟨gB, oB + kk * 9 + 2, none⟩ = some (.int .i64 pr1) := hcell 2 _ rfl
      have e3 : wr.cell? ⟨gB, oB + kk * 9 + 3, none⟩ = some (.int .i64 id1) := hcell 3 _ rfl
      have e4 : wr.cell? ⟨gB, oB + kk * 9 + 4, none⟩ = some (.int .i64 of1) := hcell 4 _ rfl
      have e5 : wr.cell? ⟨gB, oB + kk * 9 + 5, none⟩ = some (.bool mo1) := hcell 5 _ rfl
      have e6 : wr.cell? ⟨gB, oB + kk * 9 + 6, none⟩ = some (.bool wh1) := hcell 6 _ rfl
      have e7 : wr.cell? ⟨gB, oB + kk * 9 + 7, none⟩ = some (.int .i64 tt1) := hcell 7 _ rfl
      have e8 : wr.cell? ⟨gB, oB + kk * 9 + 8, none⟩ = some (.slice U bd1.length cu) := hcell 8 _ rfl
      simp only [Pk.to] at hPok
      have hlx : bd1.length ≤ 65515 := by omega
      have hend : IntKind.i64.wrap (of1 + (bd1.length : Int)) = of1 + (bd1.length : Int) := IntWalk.i64_in _ (by omega)
      have hj1 : IntKind.i64.wrap ((kk : Int) + 1) = ((kk + 1 : Nat) : Int) := by rw [IntWalk.i64_in _ (by omega)]; omega
      clear hcell hbody hHS hHC hmem hPk k3 hpb hbel
      go_upto_region 6 with (fail)
      have hbn := Blk.new wr 25 #[.int .u32 (s1 : Int), .int .u32 (d1 : Int), .int .i64 pr1, .int .i64 id1, .int .i64 of1, .bool mo1, .bool wh1, .int .i64 tt1, .slice U bd1.length cu]
      have y4 : (wr.alloc (.cells #[.int .u32 (s1 : Int), .int .u32 (d1 : Int), .int .i64 pr1, .int .i64 id1, .int .i64 of1, .bool mo1, .bool wh1, .int .i64 tt1, .slice U bd1.length cu] 25)).cell? ⟨wr.heap.size, 4, none⟩ = some (.int .i64 of1) := hbn.cell 4
      have y5 : (wr.alloc (.cells #[.int .u32 (s1 : Int), .int .u32 (d1 : Int), .int .i64 pr1, .int .i64 id1, .int .i64 of1, .bool mo1, .bool wh1, .int .i64 tt1, .slice U bd1.length cu] 25)).cell? ⟨wr.heap.size, 5, none⟩ = some (.bool mo1) := hbn.cell 5
      have y8 : (wr.alloc (.cells #[.int .u32 (s1 : Int), .int .u32 (d1 : Int), .int .i64 pr1, .int .i64 id1, .int .i64 of1, .bool mo1, .bool wh1, .int .i64 tt1, .slice U bd1.length cu] 25)).cell? ⟨wr.heap.size, 8, none⟩ = some (.slice U bd1.length cu) := hbn.cell 8
      have hpb2 := Hpb.out.alloc (.cells #[.int .u32 (s1 : Int), .int .u32 (d1 : Int), .int .i64 pr1, .int .i64 id1, .int .i64 of1, .bool mo1, .bool wh1, .int .i64 tt1, .slice U bd1.length cu] 25)
      have q3' : (wr.alloc (.cells #[.int .u32 (s1 : Int), .int .u32 (d1 : Int), .int .i64 pr1, .int .i64 id1, .int .i64 of1, .bool mo1, .bool wh1, .int .i64 tt1, .slice U bd1.length cu] 25)).cell? ⟨w.heap.size, 4, none⟩ = some (.int .i64 off) := hpb2.cell 4
      have q5' : (wr.alloc (.cells #[.int .u32 (s1 : Int), .int .u32 (d1 : Int), .int .i64 pr1, .int .i64 id1, .int .i64 of1, .bool mo1, .bool wh1, .int .i64 tt1, .slice U bd1.length cu] 25)).cell? ⟨w.heap.size, 5, none⟩ = some (.bool more) := hpb2.cell 5
      have q8' : (wr.alloc (.cells #[.int .u32 (s1 : Int), .int .u32 (d1 : Int), .int .i64 pr1, .int .i64 id1, .int .i64 of1, .bool mo1, .bool wh1, .int .i64 tt1, .slice U bd1.length cu] 25)).cell? ⟨w.heap.size, 8, none⟩ = some (.slice A body.length cap) := hpb2.cell 8
      have HX2 := hid (HX.out.alloc (.cells #[.int .u32 (s1 : Int), .int .u32 (d1 : Int), .int .i64 pr1, .int .i64 id1, .int .i64 of1, .bool mo1, .bool wh1, .int .i64 tt1, .slice U bd1.length cu] 25))
      have HP2 := hid (HPb.out.alloc (.cells #[.int .u32 (s1 : Int), .int .u32 (d1 : Int), .int .i64 pr1, .int .i64 id1, .int .i64 of1, .bool mo1, .bool wh1, .int .i64 tt1, .slice U bd1.length cu] 25))
      have Hb2 := hid (Hbel.out.alloc Hbel.out.size (.cells #[.int .u32 (s1 : Int), .int .u32 (d1 : Int), .int .i64 pr1, .int .i64 id1, .int .i64 of1, .bool mo1, .bool wh1, .int .i64 tt1, .slice U bd1.length cu] 25))
      have Hpb2 := hid hpb2
      clear hbn hpb2 e0 e1 e2 e3 e4 e5 e6 e7 e8 q3 q5 q8
      generalize wr.alloc (.cells #[.int .u32 (s1 : Int), .int .u32 (d1 : Int), .int .i64 pr1, .int .i64 id1, .int .i64 of1, .bool mo1, .bool wh1, .int .i64 tt1, .slice U bd1.length cu] 25) = wy at *
      obtain ⟨eb, heb⟩ : ∃ eb, decide (bd1 = body) = eb := ⟨_, rfl⟩
      have HE : ∀ wx, Bs wx (.slice U bd1.length cu) bd1 → Bs wx (.slice A body.length cap) body → Calls Try.prog 52 #[.slice U bd1.length cu, .slice A body.length cap] wx fun e w' => e = .returned (.bool eb) ∧ ∃ q, w' = wx.drewN q := fun wx h1 h2 => by
        rw [← heb]; exact equal_any _ _ bd1 body wx h1 h2 (by omega)
      obtain ⟨sb, hsb⟩ : ∃ sb, pSame ⟨s1, d1, pr1, id1, of1, mo1, wh1, tt1, bd1⟩ ⟨src, dst, proto, id, off, more, whole, ttl, body⟩ = sb := ⟨_, rfl⟩
      have hs4 : (of1 == off) = false ∧ sb = false ∨ (of1 == off) = true ∧ (mo1 == more) = false ∧ sb = false ∨ (of1 == off) = true ∧ (mo1 == more) = true ∧ sb = eb := by
        rw [← hsb, ← heb]
        simp only [pSame]
        by_cases z1 : of1 = off <;> by_cases z2 : mo1 = more <;> simp [z1, z2]
      obtain ⟨cb, hcb⟩ : ∃ cb, pClash ⟨s1, d1, pr1, id1, of1, mo1, wh1, tt1, bd1⟩ ⟨src, dst, proto, id, off, more, whole, ttl, body⟩ = cb := ⟨_, rfl⟩
      have HS2 := hid (HHS.out.trans hsb)
      have HM2 := hid (fun e : sb = true => Hmem.out sb hsb e)
      have HC3 := hid (show ((x.w.parts.take (kk + 1)).any (pClash · ⟨src, dst, proto, id, off, more, whole, ttl, body⟩)) = ((x.w.parts.take kk).any (pClash · ⟨src, dst, proto, id, off, more, whole, ttl, body⟩) || cb) by rw [HHC.out, hcb])
      simp only [pClash, Pk.to] at hcb
      have hcases : cb = true ∧ (of1 < off + body.length ∧ off < of1 + bd1.length ∨ ¬ of1 < off + body.length ∧ more = false ∧ of1 + bd1.length > off + body.length) ∨
          cb = false ∧ (¬ of1 < off + body.length ∧ more = true ∨ ¬ of1 < off + body.length ∧ more = false ∧ ¬ of1 + bd1.length > off + body.length ∨ of1 < off + body.length ∧ ¬ off < of1 + bd1.length ∧ more = true ∨ of1 < off + body.length ∧ ¬ off < of1 + bd1.length ∧ more = false ∧ ¬ of1 + bd1.length > off + body.length) := by
        rw [← hcb]
        by_cases z1 : of1 < off + body.length <;> by_cases z2 : off < of1 + bd1.length <;> by_cases z3 : off + body.length < of1 + bd1.length <;> cases more <;> simp [z1, z2, z3] <;> omega
      have Hcases := hid hcases
      clear hsb hcb heb hcases
      go_upto_region 7 with (fail)
      go_cut [31] from 32 to 50 (fun s31 wx => s31 = .bool sb ∧ ∃ q, wx = wy.drewN q)
      case first =>
        rcases hs4 with ⟨h1, rfl⟩ | ⟨h1, h2, rfl⟩ | ⟨h1, h2, rfl⟩
        all_goals
          go_wp2_with ((go_at_call 52; (with_reducible refine (HE _ (by repeat (first | exact HX2.out | refine Bs.drewN ?_ _ | refine Bs.drew ?_)) (by repeat (first | exact HP2.out | refine Bs.drewN ?_ _ | refine Bs.drew ?_))).mono ?_); rintro e w' ⟨rfl, qq, rfl⟩))
          go_meet
          case rel => first | exact ⟨rfl, _, rfl⟩ | exact ⟨rfl, 0, rfl⟩
      case rest =>
      obtain ⟨rfl, q, rfl⟩ := hcut
      have r3 : (wy.drewN q).cell? ⟨w.heap.size, 4, none⟩ = some (.int .i64 off) := q3'
      have r5 : (wy.drewN q).cell? ⟨w.heap.size, 5, none⟩ = some (.bool more) := q5'
      have x4 : (wy.drewN q).cell? ⟨wr.heap.size, 4, none⟩ = some (.int .i64 of1) := y4
      have Hpb3 := hid (Hpb2.out.drewN q)
      have Hb3 := hid (below_drewN Hb2.out q)
      clear q3' q5' q8' y4 y5 y8 HE hs4 HX2 HP2 Hpb2 Hb2
      generalize wy.drewN q = wz at *
      cases sb with
      | true =>
        have Hans := hid (show pBeside x.w.parts fin ⟨src, dst, proto, id, off, more, whole, ttl, body⟩ = 1 by unfold pBeside; rw [if_pos (HM2.out rfl)])
        go_wp2_with fail
        go_ret
        rw [Hans.out]
        exact ⟨rfl, Hb3.out⟩
      | false =>
        rcases Hcases.out with ⟨rfl, hc⟩ | ⟨rfl, hc⟩
        · have Hwas := hid (show ((x.w.parts.take (kk + 1)).any (pClash · ⟨src, dst, proto, id, off, more, whole, ttl, body⟩)) = true by rw [HC3.out, Bool.or_true])
          clear HC3 Hcases
          rcases hc with ⟨c1, c2⟩ | ⟨c1, rfl, c3⟩
          all_goals
            go_wp2_with fail
            go_roundg (n - (kk + 1))
            case measure => omega
            case rel => exact ⟨kk + 1, by omega, Nat.le_refl _, ⟨_, rfl, hid (by rw [Hwas.out]; rfl)⟩, rfl, Hb3.out, Hpb3.out, HS2⟩
        · have Hwas := hid (show ((x.w.parts.take (kk + 1)).any (pClash · ⟨src, dst, proto, id, off, more, whole, ttl, body⟩)) = ((x.w.parts.take kk).any (pClash · ⟨src, dst, proto, id, off, more, whole, ttl, body⟩)) by rw [HC3.out, Bool.or_false])
          clear HC3 Hcases
          rcases hc with ⟨c1, rfl⟩ | ⟨c1, rfl, c3⟩ | ⟨c1, c2, rfl⟩ | ⟨c1, c2, rfl, c3⟩
          all_goals
            go_wp2_with fail
            go_roundg (n - (kk + 1))
            case measure => omega
            case rel => exact ⟨kk + 1, by omega, Nat.le_refl _, ⟨_, rfl, hid (by rw [Hwas.out, HC6.out])⟩, rfl, Hb3.out, Hpb3.out, HS2⟩
    · obtain rfl : kk = n := by omega
      have hkI : ¬ (kk : Int) < (kk : Int) := by omega
      have d5 : wr.cell? ⟨gx, 5, none⟩ = some (.int .i64 fin) := cell_below hbel c5
      have HSA : x.w.parts.any (pSame · ⟨src, dst, proto, id, off, more, whole, ttl, body⟩) = false := by have := HS.out; rwa [List.take_of_length_le (by rw [Hpl.out]; exact Nat.le_refl _)] at this
      have hC6 := HC6.out
      rw [List.take_of_length_le (by rw [Hpl.out]; exact Nat.le_refl _)] at hC6
      obtain ⟨ans, hans⟩ : ∃ z, pBeside x.w.parts fin ⟨src, dst, proto, id, off, more, whole, ttl, body⟩ = z := ⟨_, rfl⟩
      have Hans := hid hans
      unfold pBeside at hans
      rw [HSA, if_neg (by simp)] at hans
      simp only [Pk.to] at hans
      have h6 : (0 ≤ fin ∧ (fin < off + body.length ∨ ¬ fin < off + body.length ∧ more = false)) ∧ ans = 2 ∨ (¬ 0 ≤ fin ∨ 0 ≤ fin ∧ ¬ fin < off + body.length ∧ more = true) ∧ ans = c6 := by
        rw [hC6, ← hans]
        by_cases z1 : 0 ≤ fin <;> by_cases z2 : fin < off + body.length <;> cases more <;> simp [z1, z2]
      have H6 := hid h6
      have Hbel := hid hbel
      clear hC6 hans HSA h6 HC6 hbel hpb
      rcases H6.out with ⟨⟨c1, c2 | ⟨c2, rfl⟩⟩, rfl⟩ | ⟨c1 | ⟨c1, c2, rfl⟩, rfl⟩
      all_goals
        clear H6
        have c1' := c1
        rw [← ge_iff_le] at c1'
        try rw [← gt_iff_lt] at c2
        go_wp2_with fail
        go_ret
        rw [Hans.out]
        exact ⟨rfl, Hbel.out⟩
end Go.Proofs.Ytbjiicnagfeciaa
