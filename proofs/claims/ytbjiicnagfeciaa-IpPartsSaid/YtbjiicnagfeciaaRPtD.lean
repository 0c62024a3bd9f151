/- Contract of the document's clash. -/
import Derived.Test.YtbjiicnagfeciaaRPtC
import Derived.Test.YtbjiicnagfeciaaPtE
namespace Go.Proofs.Ytbjiicnagfeciaa
open Go Go.RowKit
attribute [local go_sem ↓] Go.wp_at_zero Go.wp_at_succ
set_option maxRecDepth 100000

def rClashOne (x p : Pk) : Bool := decide (p.off < x.to) && decide (x.off < p.to) || !x.more && (decide (p.to > x.to) || !p.more) || !p.more && decide (x.to > p.to)
/-- what the document's clash tells: bad, same -/
def rClash (ps : List Pk) (p : Pk) : Bool × Bool := if ps.any (pSame · p) then (false, true) else (ps.any (rClashOne · p), false)

set_option maxHeartbeats 4000000 in
theorem rclash_at (lv : Value) (qs : List (Pk × Value)) (v : Value) (p : Pk) (w : World) (hrow : RowN w 9 lv qs.length (pkRow qs)) (hbod : ∀ q ∈ qs, Bs w q.2 q.1.body) (hok : ∀ q ∈ qs, 0 ≤ q.1.off ∧ q.1.to ≤ 65515) (hp : pWrong p = false) (hmany : qs.length ≤ 100000) (h : Bs w v p.body) :
    Calls Try.prog 47 #[lv, .agg (pkCells p v).toArray] w fun e w' => e = .returned (.tuple #[.bool (rClash (qs.map Prod.fst) p).1, .bool (rClash (qs.map Prod.fst) p).2]) ∧ Below w.heap.size w w' := by
  obtain ⟨hp1, hp2⟩ := pWrong_no hp
  obtain ⟨src, dst, proto, id, off, more, whole, ttl, body⟩ := p
  obtain ⟨_, A, cap, rfl, k1, k2, _⟩ := (show RowN w 1 v body.length (body.map u8v) from h)
  have HP := hid (show Bs w (.slice A body.length cap) body from h)
  simp only [Pk.to] at hp1 hp2
  obtain ⟨n, hn⟩ : ∃ n, qs.length = n := ⟨_, rfl⟩
  rw [hn] at hmany hrow
  have Hn := hid hn
  obtain ⟨_, B, capB, rfl, hcB1, hcB2, _⟩ := (show RowN w 9 lv n (pkRow qs) from hrow)
  have HR := hid hrow
  have Hbod := hid hbod
  have Hok := hid hok
  have hcB : capB ≤ 9223372036854775807 := by simp only [maxLen] at hcB2; omega
  obtain ⟨ps, hps⟩ : ∃ ps, qs.map Prod.fst = ps := ⟨_, rfl⟩
  have Hps := hid hps
  have Hpl := hid (show ps.length = n by rw [← hps, List.length_map, hn])
  rw [hps]
  clear hok hbod hrow hn hcB2 h hp k2 hps
  dsimp only [pkCells]
  have K0 := hid (below_alloc w (.cells #[.int .u32 (src : Int), .int .u32 (dst : Int), .int .i64 proto, .int .i64 id, .int .i64 off, .bool more, .bool whole, .int .i64 ttl, .slice A body.length cap] 35))
  have HB0 := hid (Blk.new w 35 #[.int .u32 (src : Int), .int .u32 (dst : Int), .int .i64 proto, .int .i64 id, .int .i64 off, .bool more, .bool whole, .int .i64 ttl, .slice A body.length cap])
  have hto : IntKind.i64.wrap (off + (body.length : Int)) = off + (body.length : Int) := IntWalk.i64_in _ (by omega)
  go_enter Try.func47, Try.ntmps47
  go_wp2_with (fail)
  go_loopg [7] n (fun gk s7 wr => ∃ kk : Nat, kk ≤ n ∧ n - kk ≤ gk ∧ s7 = .int .i64 (kk : Int) ∧ Below w.heap.size w wr ∧ Blk wr w.heap.size 35 [.int .u32 (src : Int), .int .u32 (dst : Int), .int .i64 proto, .int .i64 id, .int .i64 off, .bool more, .bool whole, .int .i64 ttl, .slice A body.length cap] ∧ Hid ((ps.take kk).any (pSame · (⟨src, dst, proto, id, off, more, whole, ttl, body⟩ : Pk)) = false))
  case atStart => exact ⟨0, Nat.zero_le _, by omega, rfl, K0.out, HB0.out, hid rfl⟩
  case round =>
    obtain ⟨kk, hkk, hgk, rfl, hbel, hpb, HS⟩ := hrel
    by_cases hkl : kk < n
    · have hkI : (kk : Int) < (n : Int) := by omega
      have hkp : kk < ps.length := by rw [Hpl.out]; exact hkl
      have hkq : kk < qs.length := by rw [Hn.out]; exact hkl
      obtain ⟨gB, oB, rfl, hcell⟩ := rowS_at (HR.out.keep (fun p u hp => cell_below hbel hp)) Hn.out rfl kk hkl
      have hPk : qs[kk].1 = ps[kk] := by
        have := Hps.out
        simp [← this]
      have hbody := (Hbod.out qs[kk] (List.getElem_mem hkq)).below hbel
      have hHS := any_snoc ps kk hkp (pSame · (⟨src, dst, proto, id, off, more, whole, ttl, body⟩ : Pk))
      rw [HS.out, Bool.false_or] at hHS
      have hmem : ∀ b, pSame ps[kk] (⟨src, dst, proto, id, off, more, whole, ttl, body⟩ : Pk) = b → b = true → ps.any (pSame · (⟨src, dst, proto, id, off, more, whole, ttl, body⟩ : Pk)) = true := fun b hb ht => List.any_eq_true.2 ⟨_, List.getElem_mem hkp, by rw [← ht, ← hb]⟩
      rw [hPk] at hcell hbody
      generalize qs[kk].2 = u at hcell hbody
      generalize ps[kk] = P at hcell hbody hHS hmem
      have HHS := hid hHS
      have Hmem := hid hmem
      obtain ⟨s1, d1, pr1, id1, of1, mo1, wh1, tt1, bd1⟩ := P
      obtain ⟨_, U, cu, rfl, k3, k4, _⟩ := (show Bs wr u bd1 from hbody)
      have HX := hid hbody
      have HPb := hid (HP.out.below hbel)
      have Hpb := hid hpb
      have Hbel := hid hbel
      have e0 : wr.cell? ⟨gB, oB + kk * 9, none⟩ = some (.int .u32 (s1 : Int)) := hcell 0 _ rfl
      have e1 : wr.cell? ⟨gB, oB + kk * 9 + 1, none⟩ = some (.int .u32 (d1 : Int)) := hcell 1 _ rfl
      have e2 : wr.cell? ⟨gB, oB + kk * 9 + 2, none⟩ = some (.int .i64 pr1) := hcell 2 _ rfl
      have e3 : wr.cell? ⟨gB, oB + kk * 9 + 3, none⟩ = some (.int .i64 id1) := hcell 3 _ rfl
      have e4 : wr.cell? ⟨gB, oB + kk * 9 + 4, none⟩ = some (.int .i64 of1) := hcell 4 _ rfl
      have e5 : wr.cell? ⟨gB, oB + kk * 9 + 5, none⟩ = some (.bool mo1) := hcell 5 _ rfl
      have e6 : wr.cell? ⟨gB, oB + kk * 9 + 6, none⟩ = some (.bool wh1) := hcell 6 _ rfl
      have e7 : wr.cell? ⟨gB, oB + kk * 9 + 7, none⟩ = some (.int .i64 tt1) := hcell 7 _ rfl
      have e8 : wr.cell? ⟨gB, oB + kk * 9 + 8, none⟩ = some (.slice U bd1.length cu) := hcell 8 _ rfl
      have hj1 : IntKind.i64.wrap ((kk : Int) + 1) = ((kk + 1 : Nat) : Int) := by rw [IntWalk.i64_in _ (by omega)]; omega
      clear hcell hbody hHS hmem hPk k3 hpb hbel
      go_upto_region 6 with (fail)
      have hbn := Blk.new wr 35 #[.int .u32 (s1 : Int), .int .u32 (d1 : Int), .int .i64 pr1, .int .i64 id1, .int .i64 of1, .bool mo1, .bool wh1, .int .i64 tt1, .slice U bd1.length cu]
      have y4 : (wr.alloc (.cells #[.int .u32 (s1 : Int), .int .u32 (d1 : Int), .int .i64 pr1, .int .i64 id1, .int .i64 of1, .bool mo1, .bool wh1, .int .i64 tt1, .slice U bd1.length cu] 35)).cell? ⟨wr.heap.size, 4, none⟩ = some (.int .i64 of1) := hbn.cell 4
      have y5 : (wr.alloc (.cells #[.int .u32 (s1 : Int), .int .u32 (d1 : Int), .int .i64 pr1, .int .i64 id1, .int .i64 of1, .bool mo1, .bool wh1, .int .i64 tt1, .slice U bd1.length cu] 35)).cell? ⟨wr.heap.size, 5, none⟩ = some (.bool mo1) := hbn.cell 5
      have y8 : (wr.alloc (.cells #[.int .u32 (s1 : Int), .int .u32 (d1 : Int), .int .i64 pr1, .int .i64 id1, .int .i64 of1, .bool mo1, .bool wh1, .int .i64 tt1, .slice U bd1.length cu] 35)).cell? ⟨wr.heap.size, 8, none⟩ = some (.slice U bd1.length cu) := hbn.cell 8
      have hpb2 := Hpb.out.alloc (.cells #[.int .u32 (s1 : Int), .int .u32 (d1 : Int), .int .i64 pr1, .int .i64 id1, .int .i64 of1, .bool mo1, .bool wh1, .int .i64 tt1, .slice U bd1.length cu] 35)
      have q4 : (wr.alloc (.cells #[.int .u32 (s1 : Int), .int .u32 (d1 : Int), .int .i64 pr1, .int .i64 id1, .int .i64 of1, .bool mo1, .bool wh1, .int .i64 tt1, .slice U bd1.length cu] 35)).cell? ⟨w.heap.size, 4, none⟩ = some (.int .i64 off) := hpb2.cell 4
      have q5 : (wr.alloc (.cells #[.int .u32 (s1 : Int), .int .u32 (d1 : Int), .int .i64 pr1, .int .i64 id1, .int .i64 of1, .bool mo1, .bool wh1, .int .i64 tt1, .slice U bd1.length cu] 35)).cell? ⟨w.heap.size, 5, none⟩ = some (.bool more) := hpb2.cell 5
      have q8 : (wr.alloc (.cells #[.int .u32 (s1 : Int), .int .u32 (d1 : Int), .int .i64 pr1, .int .i64 id1, .int .i64 of1, .bool mo1, .bool wh1, .int .i64 tt1, .slice U bd1.length cu] 35)).cell? ⟨w.heap.size, 8, none⟩ = some (.slice A body.length cap) := hpb2.cell 8
      have sX := run_str (P := Try.prog) Try.underlying23 Try.underlying5 Try.underlying9 (HX.out.alloc (.cells #[.int .u32 (s1 : Int), .int .u32 (d1 : Int), .int .i64 pr1, .int .i64 id1, .int .i64 of1, .bool mo1, .bool wh1, .int .i64 tt1, .slice U bd1.length cu] 35))
      have sP := run_str (P := Try.prog) Try.underlying23 Try.underlying5 Try.underlying9 (HPb.out.alloc (.cells #[.int .u32 (s1 : Int), .int .u32 (d1 : Int), .int .i64 pr1, .int .i64 id1, .int .i64 of1, .bool mo1, .bool wh1, .int .i64 tt1, .slice U bd1.length cu] 35))
      have Hb2 := hid (Hbel.out.alloc Hbel.out.size (.cells #[.int .u32 (s1 : Int), .int .u32 (d1 : Int), .int .i64 pr1, .int .i64 id1, .int .i64 of1, .bool mo1, .bool wh1, .int .i64 tt1, .slice U bd1.length cu] 35))
      have Hpb2 := hid hpb2
      clear hbn hpb2 e0 e1 e2 e3 e4 e5 e6 e7 e8
      generalize wr.alloc (.cells #[.int .u32 (s1 : Int), .int .u32 (d1 : Int), .int .i64 pr1, .int .i64 id1, .int .i64 of1, .bool mo1, .bool wh1, .int .i64 tt1, .slice U bd1.length cu] 35) = wy at *
      obtain ⟨sb, hsb⟩ : ∃ sb, pSame ⟨s1, d1, pr1, id1, of1, mo1, wh1, tt1, bd1⟩ (⟨src, dst, proto, id, off, more, whole, ttl, body⟩ : Pk) = sb := ⟨_, rfl⟩
      have HS2 := hid (HHS.out.trans hsb)
      have HM2 := hid (fun e : sb = true => Hmem.out sb hsb e)
      have hs4 : (of1 == off) = false ∧ sb = false ∨ (of1 == off) = true ∧ (mo1 == more) = false ∧ sb = false ∨ (of1 == off) = true ∧ (mo1 == more) = true ∧ (bd1 = body ∧ sb = true ∨ ((mkStr bd1).toList == (mkStr body).toList) = false ∧ sb = false) := by
        rw [← hsb, mkStr_toList, mkStr_toList]
        simp only [pSame]
        by_cases z1 : of1 = off <;> by_cases z2 : mo1 = more <;> by_cases z3 : bd1 = body <;> simp [z1, z2, z3]
      clear hsb
      go_cut [48] from 28 to 48 (fun s48 wx => s48 = .bool sb ∧ wx = wy)
      case first =>
        rcases hs4 with ⟨h1, rfl⟩ | ⟨h1, h2, rfl⟩ | ⟨h1, h2, ⟨rfl, rfl⟩ | ⟨h3, rfl⟩⟩
        all_goals
          go_wp2_with fail
          go_meet
          case rel => exact ⟨rfl, rfl⟩
      case rest =>
      obtain ⟨rfl, rfl⟩ := hcut
      clear hs4
      cases sb with
      | true =>
        have Hans := hid (show rClash ps (⟨src, dst, proto, id, off, more, whole, ttl, body⟩ : Pk) = (false, true) by unfold rClash; rw [if_pos (HM2.out rfl)])
        go_wp2_with fail
        go_ret2
        rw [Hans.out]
        exact ⟨rfl, Hb2.out⟩
      | false =>
        go_wp2_with fail
        go_roundg (n - (kk + 1))
        case measure => omega
        case rel => exact ⟨kk + 1, by omega, Nat.le_refl _, rfl, Hb2.out, Hpb2.out, HS2⟩
    · obtain rfl : kk = n := by omega
      have hkI : ¬ (kk : Int) < (kk : Int) := by omega
      have HSA := hid (show ps.any (pSame · (⟨src, dst, proto, id, off, more, whole, ttl, body⟩ : Pk)) = false by have := HS.out; rwa [List.take_of_length_le (by rw [Hpl.out]; exact Nat.le_refl _)] at this)
      have Hbel := hid hbel
      have Hpb := hid hpb
      clear hbel hpb
      go_wp2_with fail
      have Hcl := hid (show rClash ps (⟨src, dst, proto, id, off, more, whole, ttl, body⟩ : Pk) = (ps.any (rClashOne · (⟨src, dst, proto, id, off, more, whole, ttl, body⟩ : Pk)), false) by unfold rClash; rw [HSA.out]; rfl)
      go_loopg [9] kk (fun gk s9 wr => ∃ jj : Nat, jj ≤ kk ∧ kk - jj ≤ gk ∧ s9 = .int .i64 (jj : Int) ∧ Below w.heap.size w wr ∧ Blk wr w.heap.size 35 [.int .u32 (src : Int), .int .u32 (dst : Int), .int .i64 proto, .int .i64 id, .int .i64 off, .bool more, .bool whole, .int .i64 ttl, .slice A body.length cap] ∧ Hid ((ps.take jj).any (rClashOne · (⟨src, dst, proto, id, off, more, whole, ttl, body⟩ : Pk)) = false))
      case atStart => exact ⟨0, Nat.zero_le _, by omega, rfl, Hbel.out, Hpb.out, hid rfl⟩
      case round =>
        obtain ⟨jj, hjj, hgj, rfl, hbel, hpb, HC⟩ := hrel
        by_cases hkl : jj < kk
        · have hkI : (jj : Int) < (kk : Int) := by omega
          have hkp : jj < ps.length := by rw [Hpl.out]; exact hkl
          have hkq : jj < qs.length := by rw [Hn.out]; exact hkl
          obtain ⟨gB, oB, rfl, hcell⟩ := rowS_at (HR.out.keep (fun p u hp => cell_below hbel hp)) Hn.out rfl jj hkl
          have hPk : qs[jj].1 = ps[jj] := by
            have := Hps.out
            simp [← this]
          have hPo := Hok.out qs[jj] (List.getElem_mem hkq)
          have hbody := (Hbod.out qs[jj] (List.getElem_mem hkq)).below hbel
          have hHC := any_snoc ps jj hkp (rClashOne · (⟨src, dst, proto, id, off, more, whole, ttl, body⟩ : Pk))
          rw [HC.out, Bool.false_or] at hHC
          have hmem : ∀ b, rClashOne ps[jj] (⟨src, dst, proto, id, off, more, whole, ttl, body⟩ : Pk) = b → b = true → ps.any (rClashOne · (⟨src, dst, proto, id, off, more, whole, ttl, body⟩ : Pk)) = true := fun b hb ht => List.any_eq_true.2 ⟨_, List.getElem_mem hkp, by rw [← ht, ← hb]⟩
          rw [hPk] at hcell hPo hbody
          generalize qs[jj].2 = u at hcell hbody
          generalize ps[jj] = P at hcell hHC hmem hPo hbody
          have HHC := hid hHC
          have Hmem := hid hmem
          obtain ⟨s1, d1, pr1, id1, of1, mo1, wh1, tt1, bd1⟩ := P
          obtain ⟨U, cu, rfl⟩ := slice_len hbody rfl
          simp only [Pk.to] at hPo
          have Hpb := hid hpb
          have Hbel := hid hbel
          have e0 : wr.cell? ⟨gB, oB + jj * 9, none⟩ = some (.int .u32 (s1 : Int)) := hcell 0 _ rfl
          have e1 : wr.cell? ⟨gB, oB + jj * 9 + 1, none⟩ = some (.int .u32 (d1 : Int)) := hcell 1 _ rfl
          have e2 : wr.cell? ⟨gB, oB + jj * 9 + 2, none⟩ = some (.int .i64 pr1) := hcell 2 _ rfl
          have e3 : wr.cell? ⟨gB, oB + jj * 9 + 3, none⟩ = some (.int .i64 id1) := hcell 3 _ rfl
          have e4 : wr.cell? ⟨gB, oB + jj * 9 + 4, none⟩ = some (.int .i64 of1) := hcell 4 _ rfl
          have e5 : wr.cell? ⟨gB, oB + jj * 9 + 5, none⟩ = some (.bool mo1) := hcell 5 _ rfl
          have e6 : wr.cell? ⟨gB, oB + jj * 9 + 6, none⟩ = some (.bool wh1) := hcell 6 _ rfl
          have e7 : wr.cell? ⟨gB, oB + jj * 9 + 7, none⟩ = some (.int .i64 tt1) := hcell 7 _ rfl
          have e8 : wr.cell? ⟨gB, oB + jj * 9 + 8, none⟩ = some (.slice U bd1.length cu) := hcell 8 _ rfl
          have hj1 : IntKind.i64.wrap ((jj : Int) + 1) = ((jj + 1 : Nat) : Int) := by rw [IntWalk.i64_in _ (by omega)]; omega
          have hend : IntKind.i64.wrap (of1 + (bd1.length : Int)) = of1 + (bd1.length : Int) := IntWalk.i64_in _ (by omega)
          obtain ⟨hPo1, hPo2⟩ := hPo
          clear hcell hHC hmem hPk hpb hbel hbody
          go_upto_region 13 with (fail)
          have hbn := Blk.new wr 35 #[.int .u32 (s1 : Int), .int .u32 (d1 : Int), .int .i64 pr1, .int .i64 id1, .int .i64 of1, .bool mo1, .bool wh1, .int .i64 tt1, .slice U bd1.length cu]
          have y4 : (wr.alloc (.cells #[.int .u32 (s1 : Int), .int .u32 (d1 : Int), .int .i64 pr1, .int .i64 id1, .int .i64 of1, .bool mo1, .bool wh1, .int .i64 tt1, .slice U bd1.length cu] 35)).cell? ⟨wr.heap.size, 4, none⟩ = some (.int .i64 of1) := hbn.cell 4
          have y5 : (wr.alloc (.cells #[.int .u32 (s1 : Int), .int .u32 (d1 : Int), .int .i64 pr1, .int .i64 id1, .int .i64 of1, .bool mo1, .bool wh1, .int .i64 tt1, .slice U bd1.length cu] 35)).cell? ⟨wr.heap.size, 5, none⟩ = some (.bool mo1) := hbn.cell 5
          have hpb2 := Hpb.out.alloc (.cells #[.int .u32 (s1 : Int), .int .u32 (d1 : Int), .int .i64 pr1, .int .i64 id1, .int .i64 of1, .bool mo1, .bool wh1, .int .i64 tt1, .slice U bd1.length cu] 35)
          have q4 : (wr.alloc (.cells #[.int .u32 (s1 : Int), .int .u32 (d1 : Int), .int .i64 pr1, .int .i64 id1, .int .i64 of1, .bool mo1, .bool wh1, .int .i64 tt1, .slice U bd1.length cu] 35)).cell? ⟨w.heap.size, 4, none⟩ = some (.int .i64 off) := hpb2.cell 4
          have q5 : (wr.alloc (.cells #[.int .u32 (s1 : Int), .int .u32 (d1 : Int), .int .i64 pr1, .int .i64 id1, .int .i64 of1, .bool mo1, .bool wh1, .int .i64 tt1, .slice U bd1.length cu] 35)).cell? ⟨w.heap.size, 5, none⟩ = some (.bool more) := hpb2.cell 5
          have Hb2 := hid (Hbel.out.alloc Hbel.out.size (.cells #[.int .u32 (s1 : Int), .int .u32 (d1 : Int), .int .i64 pr1, .int .i64 id1, .int .i64 of1, .bool mo1, .bool wh1, .int .i64 tt1, .slice U bd1.length cu] 35))
          have Hpb2 := hid hpb2
          clear hbn hpb2 e0 e1 e2 e3 e4 e5 e6 e7 e8
          generalize wr.alloc (.cells #[.int .u32 (s1 : Int), .int .u32 (d1 : Int), .int .i64 pr1, .int .i64 id1, .int .i64 of1, .bool mo1, .bool wh1, .int .i64 tt1, .slice U bd1.length cu] 35) = wy at *
          obtain ⟨cb, hcb⟩ : ∃ cb, rClashOne ⟨s1, d1, pr1, id1, of1, mo1, wh1, tt1, bd1⟩ (⟨src, dst, proto, id, off, more, whole, ttl, body⟩ : Pk) = cb := ⟨_, rfl⟩
          have HS2 := hid (HHC.out.trans hcb)
          have HM2 := hid (fun e : cb = true => Hmem.out cb hcb e)
          simp only [rClashOne, Pk.to] at hcb
          have hcases : cb = true ∧ off < of1 + bd1.length ∧ of1 < off + body.length ∨
              (¬ off < of1 + bd1.length ∨ off < of1 + bd1.length ∧ ¬ of1 < off + body.length) ∧ (mo1 = false ∧ (cb = true ∧ off + body.length > of1 + bd1.length ∨ ¬ off + body.length > of1 + bd1.length ∧ (more = false ∧ cb = true ∨ more = true ∧ cb = false)) ∨ mo1 = true ∧ (more = true ∧ cb = false ∨ more = false ∧ (of1 + bd1.length > off + body.length ∧ cb = true ∨ ¬ of1 + bd1.length > off + body.length ∧ cb = false))) := by
            rw [← hcb]
            by_cases z1 : off < of1 + bd1.length <;> by_cases z2 : of1 < off + body.length <;> by_cases z3 : off + body.length > of1 + bd1.length <;> by_cases z4 : of1 + bd1.length > off + body.length <;> cases mo1 <;> cases more <;> simp [z1, z2, z3, z4]
          clear hcb
          go_cut [99] from 65 to 99 (fun s99 wx => s99 = .bool cb ∧ wx = wy)
          case first =>
            rcases hcases with ⟨rfl, c1, c2⟩ | ⟨c1 | ⟨c1, c2⟩, ⟨rfl, ⟨rfl, c3⟩ | ⟨c3, ⟨rfl, rfl⟩ | ⟨rfl, rfl⟩⟩⟩ | ⟨rfl, ⟨rfl, rfl⟩ | ⟨rfl, ⟨c4, rfl⟩ | ⟨c4, rfl⟩⟩⟩⟩
            all_goals first
              | (exfalso; omega)
              | (go_wp2_with fail
                 go_meet
                 case rel => exact ⟨rfl, rfl⟩)
          case rest =>
          obtain ⟨rfl, rfl⟩ := hcut
          clear hcases
          cases cb with
          | true =>
            have Hans := hid (show rClash ps (⟨src, dst, proto, id, off, more, whole, ttl, body⟩ : Pk) = (true, false) by rw [Hcl.out, HM2.out rfl])
            go_wp2_with fail
            go_ret2
            rw [Hans.out]
            exact ⟨rfl, Hb2.out⟩
          | false =>
            go_wp2_with fail
            go_roundg (kk - (jj + 1))
            case measure => omega
            case rel => exact ⟨jj + 1, by omega, Nat.le_refl _, rfl, Hb2.out, Hpb2.out, HS2⟩
        · obtain rfl : jj = kk := by omega
          have hkI : ¬ (jj : Int) < (jj : Int) := by omega
          have Hans := hid (show rClash ps (⟨src, dst, proto, id, off, more, whole, ttl, body⟩ : Pk) = (false, false) by rw [Hcl.out]; have := HC.out; rw [List.take_of_length_le (by rw [Hpl.out]; exact Nat.le_refl _)] at this; rw [this])
          have Hbel := hid hbel
          clear hbel hpb
          go_wp2_with fail
          go_ret2
          rw [Hans.out]
          exact ⟨rfl, Hbel.out⟩
end Go.Proofs.Ytbjiicnagfeciaa
