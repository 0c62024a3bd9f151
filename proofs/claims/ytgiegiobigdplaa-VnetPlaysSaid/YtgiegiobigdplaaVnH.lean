/- The program's driver: what was used. -/
import Derived.Test.YtgiegiobigdplaaVnG
namespace Go.Proofs.Ytgiegiobigdplaa
open Go Go.RowKit
attribute [local go_sem ↓] Go.wp_at_zero Go.wp_at_succ
set_option maxRecDepth 100000
set_option linter.unusedSimpArgs false

theorem quiet0 {f : Nat} {args : Array Value} {w : World} {v : Value} (h : Calls Try.prog f args w fun e w' => e = .returned v ∧ w' = w) : Calls Try.prog f args w fun e w' => e = .returned v ∧ ∃ q, w' = w.drewN q := h.mono fun _ _ ⟨a, b⟩ => ⟨a, 0, b⟩
theorem get2_at (g gm b S : Nat) (M : List UInt8) (p : Nat) (w : World) (hm : MemAt w gm M) (hb : b + S ≤ M.length) (hp : p + 2 ≤ S) (hS : S ≤ 100000) (c0 : w.cell? ⟨g, 0, none⟩ = some (.slice (some ⟨gm, b, none⟩) S S)) :
    Calls Try.prog 58 #[.pointer (some ⟨g, 0, none⟩), .int .i64 (p : Int), .int .i64 2] w fun e w' => e = .returned (.int .u64 (leAt M (b + p) 2 : Int)) ∧ w' = w := get_at g gm b S M p 2 w hm hb hp rfl hS c0
theorem get4_at (g gm b S : Nat) (M : List UInt8) (p : Nat) (w : World) (hm : MemAt w gm M) (hb : b + S ≤ M.length) (hp : p + 4 ≤ S) (hS : S ≤ 100000) (c0 : w.cell? ⟨g, 0, none⟩ = some (.slice (some ⟨gm, b, none⟩) S S)) :
    Calls Try.prog 58 #[.pointer (some ⟨g, 0, none⟩), .int .i64 (p : Int), .int .i64 4] w fun e w' => e = .returned (.int .u64 (leAt M (b + p) 4 : Int)) ∧ w' = w := get_at g gm b S M p 4 w hm hb hp rfl hS c0
theorem get8_at (g gm b S : Nat) (M : List UInt8) (p : Nat) (w : World) (hm : MemAt w gm M) (hb : b + S ≤ M.length) (hp : p + 8 ≤ S) (hS : S ≤ 100000) (c0 : w.cell? ⟨g, 0, none⟩ = some (.slice (some ⟨gm, b, none⟩) S S)) :
    Calls Try.prog 58 #[.pointer (some ⟨g, 0, none⟩), .int .i64 (p : Int), .int .i64 8] w fun e w' => e = .returned (.int .u64 (leAt M (b + p) 8 : Int)) ∧ w' = w := get_at g gm b S M p 8 w hm hb hp rfl hS c0
theorem intsinfo : (Try.prog.info? 47).map (fun i => (i.zero, i.size, i.bytes)) = some (some (.slice none 0 0), 1, 24) := by kernel_rfl
/-- what Used answers -/
def usedV (r : Option (Option (Nat × Nat) × VQ)) : Value := match r with
  | none => .tuple #[.int .i64 0, .int .i64 0, .int .i64 2]
  | some (some (h, l), _) => .tuple #[.int .i64 (h : Int), .int .i64 (l : Int), .int .i64 0]
  | some (none, _) => .tuple #[.int .i64 0, .int .i64 0, .int .i64 15]
def usedQ (q : VQ) (r : Option (Option (Nat × Nat) × VQ)) : VQ := match r with
  | none => q
  | some (_, q') => q'
def UsedPost (base gm b n g m : Nat) (q : VQ) (F : Nat → Prop) (r : Option (Option (Nat × Nat) × VQ)) (w : World) (e : Ending) (w' : World) : Prop :=
  e = .returned (usedV r) ∧ DrvInv w' base gm b n g (usedQ q r) m F ∧ Frame F w w'
/-- a chain is let go -/
theorem DrvMid.drop {w w' : World} {base gm b n g : Nat} {q : VQ} {bs : List Bool} {m gb gch : Nat} {f : Nat → Option Value} {F : Nat → Prop} (h : DrvMid w base gm b n g q bs m gb gch f F) (x : Nat) (hg : w.grownBy w' (some gch)) (hm : MapI Try.prog 3 w' gch m (updI f x none)) :
    DrvMid w' base gm b n g { q with busy := q.busy.set x false } bs m gb gch (updI f x none) F := by
  have hf := frame_mem hg
  refine ⟨hf.blk h.tab (h.map.ne h.tab), hf.blk h.bs (h.map.ne h.bs), hm, fun y hy => ?_, h.fg, h.fb, h.fc, fun k hk => ⟨(h.flt k hk).1, Nat.lt_of_lt_of_le (h.flt k hk).2 hf.size⟩⟩
  show (((q.busy.set x false)[y]? = some true → _) ∧ ((q.busy.set x false)[y]? ≠ some true → _))
  unfold updI
  by_cases e : y = x
  · subst e
    have h1 : (q.busy.set y false)[y]? ≠ some true := by
      rw [List.getElem?_set, if_pos rfl]
      intro hc
      split at hc
      · injection hc with hc; cases hc
      · cases hc
    exact ⟨fun hc => absurd hc h1, fun _ => by rw [if_pos rfl]⟩
  · rw [List.getElem?_set, if_neg (fun e2 => e e2.symm), if_neg e]
    refine ⟨fun hb => ?_, (h.ch y hy).2⟩
    obtain ⟨v, h1, h2, h3⟩ := (h.ch y hy).1 hb
    refine ⟨v, h1, own_same h2 (fun k hk => hf.block k ((RowAtS.of_own h2).lt hk).2 (fun e2 => ?_)), h3⟩
    subst e2
    exact own_ne_mapI (RowAtS.of_own h2) h.map hk
set_option maxHeartbeats 4000000 in
theorem vused_at (base gm b n g m : Nat) (q : VQ) (M : List UInt8) (F : Nat → Prop) (w : World) (h : DrvInv w base gm b n g q m F) (hm : MemAt w gm M) (hfm : ¬ F gm) (hok : okN (n : Int) = true) (hb : b + vSize n ≤ M.length) :
    Calls Try.prog 54 #[.pointer (some ⟨g, 0, none⟩)] w (UsedPost base gm b n g m q F (vUsed M b n q) w) := by
  obtain ⟨gb, gch, f, h⟩ := h
  have hn := okN_le hok
  have HD := hid h
  have HM := hid hm
  have Hfm := hid hfm
  have Hb := hid hb
  have Hfg := hid h.fg
  have HbS := hid (show vSize n ≤ 100000 by unfold vSize; omega)
  obtain ⟨pu, hpu⟩ : ∃ x : Nat, 18 * n + 4 + 2 = x := ⟨_, rfl⟩
  have hpuI : 18 * (n : Int) + 4 + 2 = (pu : Int) := by omega
  have hw1 : IntKind.i64.wrap (18 * (n : Int) + 4 + 2) = (pu : Int) := by rw [hpuI]; exact IntWalk.i64_in _ (by omega)
  obtain ⟨ui, hui⟩ : ∃ x : Nat, leAt M (b + pu) 2 = x := ⟨_, rfl⟩
  have huil : ui < 65536 := by rw [← hui]; exact leAt2 _ _
  have hw2 : IntKind.i64.wrap (ui : Int) = (ui : Int) := IntWalk.i64_in _ (by omega)
  have HBk := hid (fun j => quiet0 (vback_at g n (w.drewN j) (by omega) (h.tab.cell 1)))
  have HG := hid (fun j => quiet0 (get2_at g gm b (vSize n) M pu (w.drewN j) (hm.keep (below_drewN (Below.refl _ _) j)) hb (by unfold vSize; omega) HbS.out (h.tab.cell 0)))
  rw [hui] at HG
  have c3 : w.cell? ⟨g, 3, none⟩ = some (.int .i64 (q.got : Int)) := h.tab.cell 3
  have Hu := hid (show leAt M (b + (18 * n + 4 + 2)) 2 = ui by rw [hpu]; exact hui)
  clear h hm hfm hb hok hpu hui
  go_enter Try.func54, Try.ntmps54
  go_upto_region 1 with fail
  by_cases he : ui = q.got
  · have Hr := hid (show vUsed M b n q = none by unfold vUsed; rw [if_pos (by rw [Hu.out]; exact he)])
    have hb1 : ((ui : Int) == (q.got : Int)) = true := by simp [he]
    clear he
    go_quiet ((first | (go_at_call 61; exact Calls.quiet_of (HBk.out _)) | (go_at_call 58; exact Calls.quiet_of (HG.out _))))
    go_wp2_with fail
    go_ret3
    rw [Hr.out]
    exact ⟨rfl, ⟨gb, gch, f, HD.out.drewN _⟩, Below.frameF (below_drewN (Below.refl _ _) _) _⟩
  · have hb1 : ((ui : Int) == (q.got : Int)) = false := by simp; omega
    obtain ⟨gt, hgt⟩ : ∃ x, q.got = x := ⟨_, rfl⟩
    have Hgt := hid hgt
    have hgl : gt < 65536 := by rw [← hgt]; exact HD.out.got
    rw [hgt] at hb1 c3 he
    obtain ⟨pm, hpm⟩ : ∃ x : Nat, gt % n = x := ⟨_, rfl⟩
    have hpmn : pm < n := by rw [← hpm]; exact Nat.mod_lt _ (by omega)
    have hpmI : (gt : Int) % (n : Int) = (pm : Int) := by rw [← hpm]; exact (Int.natCast_emod _ _).symm
    have hpmT : Int.tmod (gt : Int) (n : Int) = (pm : Int) := by rw [Int.tmod_eq_emod_of_nonneg (by omega)]; exact hpmI
    obtain ⟨pf, hpf⟩ : ∃ x : Nat, 18 * n + 4 + 4 + 8 * pm = x := ⟨_, rfl⟩
    have hpfI : 18 * (n : Int) + 4 + 4 + 8 * (pm : Int) = (pf : Int) := by omega
    obtain ⟨pg, hpg⟩ : ∃ x : Nat, pf + 4 = x := ⟨_, rfl⟩
    have hpgI : (pf : Int) + 4 = (pg : Int) := by omega
    have hpgs : pg + 4 ≤ vSize n := by unfold vSize; omega
    have hw3 : IntKind.i64.wrap (18 * (n : Int) + 4 + 4) = 18 * (n : Int) + 4 + 4 := IntWalk.i64_in _ (by omega)
    have hw4 : IntKind.i64.wrap (8 * (pm : Int)) = 8 * (pm : Int) := IntWalk.i64_in _ (by omega)
    have hw5 : IntKind.i64.wrap (pf : Int) = (pf : Int) := IntWalk.i64_in _ (by omega)
    have hw6 : IntKind.i64.wrap (pg : Int) = (pg : Int) := IntWalk.i64_in _ (by omega)
    have hn0N : ¬ n = 0 := by omega
    have c1 : w.cell? ⟨g, 1, none⟩ = some (.int .i64 (n : Int)) := HD.out.tab.cell 1
    go_quiet ((first | (go_at_call 61; exact Calls.quiet_of (HBk.out _)) | (go_at_call 58; exact Calls.quiet_of (HG.out _))))
    revert nq
    intro q1
    have D1 := hid (HD.out.drewN q1)
    have M1 := hid (HM.out.keep (below_drewN (Below.refl _ _) q1))
    have F1 := hid (Below.frameF (below_drewN (Below.refl w.heap.size w) q1) F)
    clear HBk HG HD HM c3 c1
    generalize w.drewN q1 = w1 at *
    have c1 : w1.cell? ⟨g, 1, none⟩ = some (.int .i64 (n : Int)) := D1.out.tab.cell 1
    have c3 : w1.cell? ⟨g, 3, none⟩ = some (.int .i64 (gt : Int)) := (D1.out.tab.cell 3).trans (congrArg (fun z : Nat => some (Value.int .i64 (z : Int))) Hgt.out)
    have HBk := hid (fun j => quiet0 (vback_at g n (w1.drewN j) (by omega) (D1.out.tab.cell 1)))
    go_upto_region 3 with fail
    go_quiet ((go_at_call 61; exact Calls.quiet_of (HBk.out _)))
    revert nq
    intro q2
    have D2 := hid (D1.out.drewN q2)
    have M2 := hid (M1.out.keep (below_drewN (Below.refl _ _) q2))
    have F2 := hid (F1.out.trans (Below.frameF (below_drewN (Below.refl w1.heap.size w1) q2) F) (fun _ _ h => h))
    clear HBk D1 M1 F1 c1 c3
    generalize w1.drewN q2 = w2 at *
    have c3 : w2.cell? ⟨g, 3, none⟩ = some (.int .i64 (gt : Int)) := (D2.out.tab.cell 3).trans (congrArg (fun z : Nat => some (Value.int .i64 (z : Int))) Hgt.out)
    have z3 := D2.out.tab.frozen 3
    obtain ⟨gt1, hgt1⟩ : ∃ x, (gt + 1) % 65536 = x := ⟨_, rfl⟩
    have hgt1l : gt1 < 65536 := by omega
    have HNx := hid (vnext_at gt w2 hgl)
    rw [hgt1] at HNx
    have Hgt1 := hid hgt1
    clear hgt1
    go_upto_region 5 with (go_at_call 60; refine HNx.out.mono ?_; rintro e w' ⟨rfl, hw⟩; have hw := hw.symm; subst hw)
    have D3 := hid (D2.out.got_ gt1 hgt1l)
    have f3 := frame_mem (grown_set w2 g 3 (.int .i64 (gt1 : Int)))
    have M3 := hid (M2.out.frame f3 (fun e => Hfm.out (e ▸ Hfg.out)))
    have F3 := hid (F2.out.trans f3 (fun k _ e => by subst e; exact Hfg.out))
    clear D2 M2 F2 c3 z3 f3 HNx
    generalize w2.setCell ⟨g, 3, none⟩ (.int .i64 (gt1 : Int)) = w3 at *
    obtain ⟨h, hh⟩ : ∃ x, leAt M (b + pf) 4 = x := ⟨_, rfl⟩
    have hhl : h < 4294967296 := by rw [← hh]; exact leAt4 _ _
    obtain ⟨l, hl⟩ : ∃ x, leAt M (b + pg) 4 = x := ⟨_, rfl⟩
    have hll : l < 4294967296 := by rw [← hl]; exact leAt4 _ _
    have hwh : IntKind.i64.wrap (h : Int) = (h : Int) := IntWalk.i64_in _ (by omega)
    have hwl : IntKind.i64.wrap (l : Int) = (l : Int) := IntWalk.i64_in _ (by omega)
    have HG1 := hid (fun j => quiet0 (get4_at g gm b (vSize n) M pf (w3.drewN j) (M3.out.keep (below_drewN (Below.refl _ _) j)) Hb.out (by omega) HbS.out (D3.out.tab.cell 0)))
    have HG2 := hid (fun j => quiet0 (get4_at g gm b (vSize n) M pg (w3.drewN j) (M3.out.keep (below_drewN (Below.refl _ _) j)) Hb.out (by omega) HbS.out (D3.out.tab.cell 0)))
    rw [hh] at HG1
    rw [hl] at HG2
    have Hv := hid (show vUsed M b n q = if q.busy[h]? = some true then some (some (h, l), { q with got := gt1, busy := q.busy.set h false }) else some (none, { q with got := gt1 }) by
      unfold vUsed
      rw [if_neg (by rw [Hu.out, Hgt.out]; exact he), Hgt.out, hpm, hpf, hpg, hh, hl, Hgt1.out])
    clear hpm hpf hpg hh hl he
    go_quiet ((first | (go_at_call 58; (with_reducible exact Calls.quiet_of (HG1.out _))) | (go_at_call 58; (with_reducible exact Calls.quiet_of (HG2.out _)))))
    revert nq
    intro q4
    have D4 := hid (D3.out.drewN q4)
    have F4 := hid (F3.out.trans (Below.frameF (below_drewN (Below.refl w3.heap.size w3) q4) F) (fun _ _ h => h))
    clear HG1 HG2 D3 M3 F3
    generalize w3.drewN q4 = w4 at *
    have c5 : w4.cell? ⟨g, 5, none⟩ = some (.map (some gch)) := D4.out.tab.cell 5
    have hz : (zeroValue 47).run Try.prog w4 = .ok (.slice none 0 0) w4 := by
      obtain ⟨i, hi, hz, _, _⟩ := info_parts intsinfo
      simp [zeroValue, typeInfo, hi, hz]
    have hlk := D4.out.map.lookOk Try.underlying3 Try.underlying133 hz h hhl
    clear hz
    by_cases hbz : q.busy[h]? = some true
    · obtain ⟨v, hf, hown, hvF⟩ := (D4.out.ch h hhl).1 hbz
      have hhn : h < n := by have := (List.getElem?_eq_some_iff.1 hbz).1; rw [D4.out.len] at this; exact this
      obtain ⟨gc, c, rfl⟩ : ∃ gc c, v = .slice (some ⟨gc, 0, none⟩) 1 c := by
        rcases hown.2 with ⟨_, h0⟩ | ⟨g2, cap, cur, h1, _⟩
        · omega
        · exact ⟨g2, cap, h1⟩
      rw [hf] at hlk
      have hlk : (Instr.lookup 133 (.map (some gch)) (.int .i64 (h : Int)) true).run Try.prog w4 = .ok (.tuple #[.slice (some ⟨gc, 0, none⟩) 1 c, .bool true]) w4 := hlk
      have Hr := hid (show vUsed M b n q = some (some (h, l), { q with got := gt1, busy := q.busy.set h false }) by rw [Hv.out, if_pos hbz])
      have Hown := hid hown
      have HvF := hid hvF
      clear hf hown hvF hbz
      go_upto_region 10 with ((with_reducible show wpList _ _ _ (Oper.mk none (Op.call _) _ _ _ _ :: _) _ _); refine wpList_deleteI rfl _ _ 133 47 rfl Try.underlying3 Try.underlying133 rfl D4.out.map h hhl rfl ?_; intro w5 hm5 hg5; have D5 := hid (D4.out.mid.drop h hg5 hm5); have F5 := hid (F4.out.trans (frame_mem hg5) (fun k _ e => by subst e; exact D4.out.fc)); have Hown5 := hid (own_same Hown.out (fun k hk => (frame_mem hg5).block k ((RowAtS.of_own Hown.out).lt hk).2 (fun e => own_ne_mapI (RowAtS.of_own Hown.out) D4.out.map (e ▸ hk)))); clear hm5 hg5)
      have Hq4 := hid (show q.busy.length = n ∧ q.put < 65536 from ⟨D4.out.len, D4.out.put⟩)
      clear D4 Hown hlk c5
      go_wp2_with fail
      go_loopg [11, 87] 2 (fun gk _ s87 wx => ∃ z : Nat, z + gk = 2 ∧ s87 = .int .i64 (z : Int) ∧ (z = 0 ∧ wx = w5 ∨ z = 1 ∧ DrvMid wx base gm b n g { q with got := gt1, busy := q.busy.set h false } (q.busy.set h false) m gb gch (updI f h none) F ∧ Frame F w wx))
      case atStart => exact ⟨0, rfl, rfl, .inl ⟨rfl, rfl⟩⟩
      case round =>
        obtain ⟨z, hgk, rfl, ⟨rfl, hw⟩ | ⟨rfl, hd, hfr⟩⟩ := hrel
        · have hw := hw.symm
          subst hw
          obtain rfl : gk = 2 := by omega
          have kc : w5.cell? ⟨gc, 0, none⟩ = some (.int .i64 (h : Int)) := World.ownsRow.cells Hown5.out rfl 0 _ rfl
          have c4 : w5.cell? ⟨g, 4, none⟩ = some (.slice (some ⟨gb, 0, none⟩) n n) := D5.out.tab.cell 4
          obtain ⟨old, hcell⟩ : ∃ old, w5.cell? ⟨gb, h, none⟩ = some old := by
            have hlt : h < (q.busy.map Value.bool).length := by rw [List.length_map, Hq4.out.1]; exact hhn
            exact ⟨_, (D5.out.bs.cell h).trans (List.getElem?_eq_getElem hlt)⟩
          have hzz := D5.out.bs.frozen h
          have hhnI : (h : Int) < (n : Int) := by omega
          go_wp2_with fail
          go_roundg 1
          case measure => omega
          case rel => exact ⟨1, rfl, rfl, .inr ⟨rfl, D5.out.mark h false, F5.out.trans (frame_mem (grown_set _ _ _ _)) (fun k _ e => by subst e; exact D5.out.fb)⟩⟩
        obtain rfl : gk = 1 := by omega
        have D6 := hid hd
        have F6 := hid hfr
        clear hd hfr
        go_wp2_with fail
        go_ret3
        rw [Hr.out]
        exact ⟨rfl, ⟨gb, gch, _, D6.out.at_ (by rw [List.length_set]; exact Hq4.out.1) Hq4.out.2 hgt1l⟩, F6.out⟩
    · have hf := (D4.out.ch h hhl).2 hbz
      rw [hf] at hlk
      have hlk : (Instr.lookup 133 (.map (some gch)) (.int .i64 (h : Int)) true).run Try.prog w4 = .ok (.tuple #[.slice none 0 0, .bool false]) w4 := hlk
      have Hr := hid (show vUsed M b n q = some (none, { q with got := gt1 }) by rw [Hv.out, if_neg hbz])
      clear hf hbz
      go_wp2_with fail
      go_ret3
      rw [Hr.out]
      exact ⟨rfl, ⟨gb, gch, f, D4.out⟩, F4.out⟩
end Go.Proofs.Ytgiegiobigdplaa
