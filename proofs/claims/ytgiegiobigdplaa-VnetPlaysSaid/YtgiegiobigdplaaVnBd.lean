/- The document's driver: what was used. -/
import Derived.Test.YtgiegiobigdplaaVnBc
namespace Go.Proofs.Ytgiegiobigdplaa
open Go Go.RowKit
attribute [local go_sem ↓] Go.wp_at_zero Go.wp_at_succ
set_option maxRecDepth 100000
set_option linter.unusedSimpArgs false
set_option linter.unusedVariables false

/-! ### plain -/
theorem fly_erase {l : List (Nat × Value)} {busy : List Bool} {i h : Nat} {x : Value} (nod : (l.map Prod.fst).Nodup) (mem : ∀ k, k ∈ l.map Prod.fst ↔ busy[k]? = some true) (hi : l[i]? = some (h, x)) :
    ((l.take i ++ l.drop (i + 1)).map Prod.fst).Nodup ∧ ∀ k, k ∈ (l.take i ++ l.drop (i + 1)).map Prod.fst ↔ (busy.set h false)[k]? = some true := by
  have hlt : i < l.length := (List.getElem?_eq_some_iff.1 hi).1
  have e : l = l.take i ++ (h, x) :: l.drop (i + 1) := by
    rw [← (List.getElem?_eq_some_iff.1 hi).2, ← List.drop_eq_getElem_cons hlt, List.take_append_drop]
  have e2 : l.map Prod.fst = (l.take i).map Prod.fst ++ h :: (l.drop (i + 1)).map Prod.fst := by
    conv => lhs; rw [e]
    rw [List.map_append, List.map_cons]
  rw [List.map_append]
  generalize (l.take i).map Prod.fst = A at *
  generalize (l.drop (i + 1)).map Prod.fst = B at *
  rw [e2] at nod mem
  have hp : (A ++ h :: B).Perm (h :: (A ++ B)) := List.perm_middle
  have hn := List.nodup_cons.1 (hp.nodup_iff.1 nod)
  have hb : busy[h]? = some true := (mem h).1 (hp.mem_iff.2 (List.mem_cons_self ..))
  have hbl := (List.getElem?_eq_some_iff.1 hb).1
  refine ⟨hn.2, fun k => ?_⟩
  rw [List.getElem?_set]
  by_cases hk : h = k
  · subst hk
    rw [if_pos rfl, if_pos hbl]
    exact ⟨fun hm => absurd hm hn.1, fun hm => by simp at hm⟩
  · rw [if_neg hk, ← mem k]
    constructor
    · intro hm
      exact hp.mem_iff.2 (List.mem_cons_of_mem _ hm)
    · intro hm
      rcases List.mem_cons.1 (hp.mem_iff.1 hm) with e3 | e3
      · exact absurd e3.symm hk
      · exact e3
theorem chinfo : (Try.prog.info? 125).map (fun i => (i.zero, i.size, i.bytes)) = some (some (.agg #[.int .i64 0, .slice none 0 0]), 2, 32) := by kernel_rfl
theorem chok : ElemOk Try.prog 109 125 (.agg #[.int .i64 0, .slice none 0 0]) 2 32 := by
  obtain ⟨i, hi, hz, hsz, hby⟩ := info_parts chinfo
  exact ⟨Try.underlying109, ⟨i, hi, hz, hsz, hby⟩, rfl, by decide, by decide⟩
theorem own_one {w : World} {base : Nat} {e : TypeId} {v u : Value} (h : w.ownsRow base e 1 v 1 [u]) : ∃ g c, v = .slice (some ⟨g, 0, none⟩) 1 c ∧ w.cell? ⟨g, 0, none⟩ = some u ∧ base ≤ g ∧ g < w.heap.size := by
  rcases h.2 with ⟨_, h0⟩ | ⟨g, cap, cur, rfl, h1, h2, h3⟩
  · cases h0
  · exact ⟨g, cap, rfl, World.ownsRow.cells h rfl 0 _ rfl, h1, (World.ownsRow.lt h g rfl).2⟩
def RUsedPost (base gm L b n g m : Nat) (q : VQ) (r : Option (Option (Nat × Nat) × VQ)) (F : Nat → Prop) (w : World) (e : Ending) (w' : World) : Prop :=
  e = .returned (match r with | none => .tuple #[.int .i64 0, .int .i64 0, .int .i64 2] | some (none, _) => .tuple #[.int .i64 0, .int .i64 0, .int .i64 15] | some (some (h, l), _) => .tuple #[.int .i64 (h : Int), .int .i64 (l : Int), .int .i64 0]) ∧
    ∃ F', RDrv w' base gm L b n g (match r with | none => q | some (_, q') => q') m F' ∧ Frame F w w' ∧ ∀ k, F' k → F k ∨ w.heap.size ≤ k
set_option maxHeartbeats 4000000 in
theorem rused_at (base gm L b n g m : Nat) (q : VQ) (M : List UInt8) (F : Nat → Prop) (w : World) (h : RDrv w base gm L b n g q m F) (hm : MemAt w gm M) (hM : M.length = L) (hL : L ≤ 1000000) (hfm : ¬ F gm) (hok : okN (n : Int) = true) (hb : b + vSize n ≤ L) (hm1 : m < 1000000000) :
    Calls Try.prog 39 #[.pointer (some ⟨g, 0, none⟩)] w (RUsedPost base gm L b n g m q (vUsed M b n q) F w) := by
  obtain ⟨gt, vF, l, h⟩ := h
  have hn := okN_le hok
  have HD := hid h
  have HM := hid hm
  have HL := hid (And.intro hM hL)
  have Hfm := hid hfm
  have hbS : b + (8 + 26 * n) ≤ L := hb
  obtain ⟨gt0, hgt⟩ : ∃ x, q.got = x := ⟨_, rfl⟩
  have Hgt := hid hgt
  have hgl : gt0 < 65536 := by rw [← hgt]; exact h.got
  obtain ⟨ri, hri⟩ : ∃ x : Nat, b + (18 * n + 4) = x := ⟨_, rfl⟩
  have hriI : (b : Int) + 18 * (n : Int) + 4 = (ri : Int) := by omega
  obtain ⟨pu, hpu⟩ : ∃ x : Nat, ri + 2 = x := ⟨_, rfl⟩
  have hpuI : (ri : Int) + 2 = (pu : Int) := by omega
  have hpuL : pu + 2 ≤ L := by omega
  have hriL : ri ≤ 1000000 := by omega
  have hbL : b ≤ 1000000 := by omega
  have hw1 : IntKind.i64.wrap (pu : Int) = (pu : Int) := IntWalk.i64_in _ (by omega)
  obtain ⟨ui, hui⟩ : ∃ x : Nat, leAt M pu 2 = x := ⟨_, rfl⟩
  have huil : ui < 65536 := by rw [← hui]; exact leAt2 _ _
  have c1 : w.cell? ⟨g, 1, none⟩ = some (.int .i64 (b : Int)) := h.mid.tab.cell 1
  have c2 : w.cell? ⟨g, 2, none⟩ = some (.int .i64 (n : Int)) := h.mid.tab.cell 2
  have Hu := hid (show leAt M (b + (18 * n + 4 + 2)) 2 = ui by rw [show b + (18 * n + 4 + 2) = pu by omega]; exact hui)
  have Hui := hid hui
  have Hm1 := hid hm1
  clear h hm hM hok hb hpu hui hfm hm1
  go_enter Try.func39, Try.ntmps39
  go_upto_region 1 with fail
  go_quiet (fail)
  revert nq
  intro q0
  have D0 := hid (HD.out.mid.keep (below_drewN (Below.refl _ _) q0))
  have M0 := hid (HM.out.keep (below_drewN (Below.refl _ _) q0))
  have F0 := hid (Below.frameF (below_drewN (Below.refl w.heap.size w) q0) F)
  clear HM c1 c2
  have Hz0 := hid (show w.heap.size = (w.drewN q0).heap.size from rfl)
  generalize w.drewN q0 = w0 at *
  have c0 : w0.cell? ⟨g, 0, none⟩ = some (.slice (some ⟨gm, 0, none⟩) L L) := D0.out.tab.cell 0
  have c5 : w0.cell? ⟨g, 5, none⟩ = some (.int .i64 (gt0 : Int)) := (D0.out.tab.cell 5).trans (congrArg (fun z : Nat => some (Value.int .i64 (z : Int))) Hgt.out)
  have HG := hid (fun j => quiet0 (rle2_at gm L M pu (w0.drewN j) HL.out.1 HL.out.2 (M0.out.keep (below_drewN (Below.refl _ _) j)) hpuL))
  rw [Hui.out] at HG
  go_upto_region 2 with fail
  by_cases he : ui = gt0
  · have Hr := hid (show vUsed M b n q = none by unfold vUsed; rw [if_pos (by rw [Hu.out, Hgt.out]; exact he)])
    have hb1 : ((ui : Int) == (gt0 : Int)) = true := by simp [he]
    clear he
    go_quiet ((go_at_call 55; (with_reducible exact Calls.quiet_of (HG.out _))))
    revert nq
    intro q1
    have h9 := hid (show RDrv (w0.drewN q1) base gm L b n g q m F from ⟨gt, vF, l, D0.out.keep (below_drewN (Below.refl _ _) q1), HD.out.len, HD.out.put, HD.out.got, HD.out.nod, HD.out.mem, HD.out.lm⟩)
    go_wp2_with fail
    go_ret3
    rw [Hr.out]
    exact ⟨rfl, F, h9.out, F0.out.trans (Below.frameF (below_drewN (Below.refl _ _) _) _) (fun _ _ h => h), fun k hk => .inl hk⟩
  · have hb1 : ((ui : Int) == (gt0 : Int)) = false := by simp; omega
    go_quiet ((go_at_call 55; (with_reducible exact Calls.quiet_of (HG.out _))))
    revert nq
    intro q1
    have D1 := hid (D0.out.keep (below_drewN (Below.refl _ _) q1))
    have M1 := hid (M0.out.keep (below_drewN (Below.refl _ _) q1))
    have F1 := hid (F0.out.trans (Below.frameF (below_drewN (Below.refl w0.heap.size w0) q1) F) (fun _ _ h => h))
    clear HG D0 M0 F0 c0 c5
    generalize w0.drewN q1 = w1 at *
    obtain ⟨pm, hpm⟩ : ∃ x : Nat, gt0 % n = x := ⟨_, rfl⟩
    have hpmn : pm < n := by rw [← hpm]; exact Nat.mod_lt _ (by omega)
    have hpmI : (gt0 : Int) % (n : Int) = (pm : Int) := by rw [← hpm]; exact (Int.natCast_emod _ _).symm
    have hpmT : Int.tmod (gt0 : Int) (n : Int) = (pm : Int) := by rw [Int.tmod_eq_emod_of_nonneg (by omega)]; exact hpmI
    obtain ⟨pf, hpf⟩ : ∃ x : Nat, ri + 4 + 8 * pm = x := ⟨_, rfl⟩
    have hpfI : (ri : Int) + 4 + 8 * (pm : Int) = (pf : Int) := by omega
    obtain ⟨pg, hpg⟩ : ∃ x : Nat, pf + 4 = x := ⟨_, rfl⟩
    have hpgI : (pf : Int) + 4 = (pg : Int) := by omega
    have hpfs : pf + 4 ≤ L ∧ pg + 4 ≤ L := by omega
    have hpfL : pf ≤ 1000000 := by omega
    have hn0N : ¬ n = 0 := by omega
    obtain ⟨hd, hhd⟩ : ∃ x, leAt M pf 4 = x := ⟨_, rfl⟩
    have hhdl : hd < 4294967296 := by rw [← hhd]; exact leAt4 _ _
    obtain ⟨le, hle⟩ : ∃ x, leAt M pg 4 = x := ⟨_, rfl⟩
    have hlel : le < 4294967296 := by rw [← hle]; exact leAt4 _ _
    obtain ⟨gt1, hgt1⟩ : ∃ x, (gt0 + 1) % 65536 = x := ⟨_, rfl⟩
    have hgt1l : gt1 < 65536 := by omega
    have hgt1I : ((gt0 : Int) + 1) % 65536 = (gt1 : Int) := by omega
    have hgt1T : Int.tmod ((gt0 : Int) + 1) 65536 = (gt1 : Int) := by rw [Int.tmod_eq_emod_of_nonneg (by omega)]; exact hgt1I
    have Hv := hid (show vUsed M b n q = if q.busy[hd]? = some true then some (some (hd, le), { q with got := gt1, busy := q.busy.set hd false }) else some (none, { q with got := gt1 }) by
      unfold vUsed
      rw [if_neg (by rw [Hu.out, Hgt.out]; exact he), Hgt.out, hpm, show b + (18 * n + 4 + 4 + 8 * pm) = pf by omega, show b + (18 * n + 4 + 4 + 8 * pm + 4) = pg by omega, hhd, hle, hgt1])
    have c2 : w1.cell? ⟨g, 2, none⟩ = some (.int .i64 (n : Int)) := D1.out.tab.cell 2
    have c5 : w1.cell? ⟨g, 5, none⟩ = some (.int .i64 (gt0 : Int)) := (D1.out.tab.cell 5).trans (congrArg (fun z : Nat => some (Value.int .i64 (z : Int))) Hgt.out)
    have Hhd := hid (And.intro hhd hle)
    clear hpm hpf hpg hhd hle he hgt1 hri
    go_upto_region 4 with fail
    go_quiet (fail)
    revert nq
    intro q2
    have D2 := hid (D1.out.keep (below_drewN (Below.refl _ _) q2))
    have M2 := hid (M1.out.keep (below_drewN (Below.refl _ _) q2))
    have F2 := hid (F1.out.trans (Below.frameF (below_drewN (Below.refl w1.heap.size w1) q2) F) (fun _ _ h => h))
    clear D1 M1 F1 c2 c5
    generalize w1.drewN q2 = w2 at *
    have c0 : w2.cell? ⟨g, 0, none⟩ = some (.slice (some ⟨gm, 0, none⟩) L L) := D2.out.tab.cell 0
    have c5 : w2.cell? ⟨g, 5, none⟩ = some (.int .i64 (gt0 : Int)) := (D2.out.tab.cell 5).trans (congrArg (fun z : Nat => some (Value.int .i64 (z : Int))) Hgt.out)
    have z5 := D2.out.tab.frozen 5
    have HG1 := hid (rle4_at gm L M pf w2 HL.out.1 HL.out.2 M2.out hpfs.1)
    have HG2 := hid (rle4_at gm L M pg w2 HL.out.1 HL.out.2 M2.out hpfs.2)
    rw [Hhd.out.1] at HG1
    rw [Hhd.out.2] at HG2
    go_upto_region 8 with (first
      | (go_at_call 55; (with_reducible refine HG1.out.mono ?_); rintro e w' ⟨rfl, hw⟩; have hw := hw.symm; subst hw)
      | (go_at_call 55; (with_reducible refine HG2.out.mono ?_); rintro e w' ⟨rfl, hw⟩; have hw := hw.symm; subst hw))
    have D3 := hid (show RMid (w2.setCell ⟨g, 5, none⟩ (.int .i64 (gt1 : Int))) base gm L b n g q.put gt1 q.busy gt vF l F from D2.out.cell_ q.put gt1 5 _ rfl)
    have F3 := hid (F2.out.trans (frame_mem (grown_set w2 g 5 (.int .i64 (gt1 : Int)))) (fun k _ e => e ▸ D2.out.fg))
    clear D2 M2 F2 c0 c5 z5 HG1 HG2
    generalize w2.setCell ⟨g, 5, none⟩ (.int .i64 (gt1 : Int)) = w3 at *
    obtain ⟨_, A, c, hvF, hlc, hcm, _⟩ := RowN.of_own D3.out.fly.1
    subst hvF
    obtain ⟨ln, hln⟩ : ∃ x, l.length = x := ⟨_, rfl⟩
    rw [hln] at D3 HD hlc
    have Hln := hid hln
    have Hlm := hid (show ln ≤ 1000000000 by have := HD.out.lm; have := Hm1.out; omega)
    have hlnb : ln ≤ 1000000000 := Hlm.out
    have c6 : w3.cell? ⟨g, 6, none⟩ = some (.slice A ln c) := D3.out.tab.cell 6
    have Hlc := hid (And.intro hlc hcm)
    clear hln hlc hcm
    go_wp2_with fail
    go_loopg [9, 10, 11] ln (fun gk s9 _ _ wx => ∃ i : Nat, i + gk = ln ∧ s9 = .int .i64 (i : Int) ∧ (∀ j p, j < i → l[j]? = some p → p.1 ≠ hd) ∧ wx = w3)
    case atStart => exact ⟨0, by omega, rfl, fun j p hj => by omega, rfl⟩
    case round =>
      obtain ⟨i, hi, rfl, hne, hw⟩ := hrel
      have hw := hw.symm
      subst hw
      have Hne := hid hne
      clear hne
      by_cases hlt : i < ln
      · have hltI : (i : Int) < (ln : Int) := by omega
        obtain ⟨p, hp⟩ : ∃ p, l[i]? = some p := ⟨_, List.getElem?_eq_getElem (by rw [Hln.out]; exact hlt)⟩
        obtain ⟨x, xv⟩ := p
        have hpm := List.mem_of_getElem? hp
        have Hp := hid hp
        obtain ⟨gF, hA⟩ : ∃ gF, A = some ⟨gF, 0, none⟩ := by
          rcases D3.out.fly.1.2 with ⟨h1, h0⟩ | ⟨g2, cap, cur, h1, _⟩
          · rw [Hln.out] at h0
            omega
          · injection h1 with h1
            exact ⟨g2, h1⟩
        subst hA
        have hr0 : w3.cell? ⟨gF, i * 2, none⟩ = some (.int .i64 (x : Int)) := by have := World.ownsRow.cells D3.out.fly.1 rfl _ _ (chRow_get hp).1; rw [add_off, Nat.zero_add] at this; exact this
        have hr1 : w3.cell? ⟨gF, i * 2 + 1, none⟩ = some xv := by have := World.ownsRow.cells D3.out.fly.1 rfl _ _ (chRow_get hp).2; rw [add_off, Nat.zero_add] at this; exact this
        have Hms := hid (show ln - (i + 1) < gk ∧ i + 1 + (ln - (i + 1)) = ln by omega)
        by_cases hx : x = hd
        · subst hx
          obtain ⟨gX, cX, rfl, hcX, _, _⟩ := own_one (D3.out.fly.2.2 _ hpm).1
          have hb := (HD.out.mem x).1 (List.mem_map.2 ⟨_, hpm, rfl⟩)
          have hxn : x < n := by have := (List.getElem?_eq_some_iff.1 hb).1; rw [HD.out.len] at this; exact this
          have Hb := hid hb
          have c3 : w3.cell? ⟨g, 3, none⟩ = some (.slice (some ⟨gt, 0, none⟩) n n) := D3.out.tab.cell 3
          have hct : w3.cell? ⟨gt, x, none⟩ = some (.bool true) := by rw [D3.out.bsk.cell x, List.getElem?_map, hb]; rfl
          have zt := D3.out.bsk.frozen x
          have Hr := hid (show vUsed M b n q = some (some (x, le), { q with got := gt1, busy := q.busy.set x false }) by rw [Hv.out, if_pos hb])
          clear hpm hb hp hi
          go_wp2_with fail
          go_loopg [10] 2 (fun gk s10 wx => ∃ z : Nat, z + gk = 2 ∧ s10 = .int .i64 (z : Int) ∧ (z = 0 ∧ wx = w3 ∨ z = 1 ∧ RMid wx base gm L b n g q.put gt1 (q.busy.set x false) gt (.slice (some ⟨gF, 0, none⟩) ln c) l F ∧ Frame F w wx))
          case atStart => exact ⟨0, rfl, rfl, .inl ⟨rfl, rfl⟩⟩
          case round =>
            obtain ⟨z, hgk, rfl, ⟨rfl, hw⟩ | ⟨rfl, hD4, hF4⟩⟩ := hrel
            · have hw := hw.symm
              subst hw
              obtain rfl : gk = 2 := by omega
              have HD4 := hid (show RMid (w3.setCell ⟨gt, x, none⟩ (.bool false)) base gm L b n g q.put gt1 (q.busy.set x false) gt (.slice (some ⟨gF, 0, none⟩) ln c) l F from D3.out.mark x false)
              have HF4 := hid (F3.out.trans (frame_mem (grown_set w3 gt x (.bool false))) (fun k _ e => e ▸ D3.out.ft) : Frame F w (w3.setCell ⟨gt, x, none⟩ (.bool false)))
              have HS4 := hid (show (w3.setCell ⟨gt, x, none⟩ (.bool false)).cell? ⟨g, 3, none⟩ = some (.slice (some ⟨gt, 0, none⟩) n n) ∧ (w3.setCell ⟨gt, x, none⟩ (.bool false)).cell? ⟨g, 6, none⟩ = some (.slice (some ⟨gF, 0, none⟩) ln c) ∧ (w3.setCell ⟨gt, x, none⟩ (.bool false)).cell? ⟨gF, i * 2 + 1, none⟩ = some (.slice (some ⟨gX, 0, none⟩) 1 cX) ∧ (w3.setCell ⟨gt, x, none⟩ (.bool false)).cell? ⟨gX, 0, none⟩ = some (.int .i64 (x : Int)) from
                ⟨HD4.out.tab.cell 3, HD4.out.tab.cell 6, by have := World.ownsRow.cells HD4.out.fly.1 rfl _ _ (chRow_get Hp.out).2; rw [add_off, Nat.zero_add] at this; exact this, World.ownsRow.cells (HD4.out.fly.2.2 _ (List.mem_of_getElem? Hp.out)).1 rfl 0 _ rfl⟩)
              go_upto_region 15 with fail
              go_region_held3 (fun wy => wy.cell? ⟨g, 3, none⟩ = some (.slice (some ⟨gt, 0, none⟩) n n) ∧ wy.cell? ⟨g, 6, none⟩ = some (.slice (some ⟨gF, 0, none⟩) ln c) ∧ wy.cell? ⟨gF, i * 2 + 1, none⟩ = some (.slice (some ⟨gX, 0, none⟩) 1 cX) ∧ wy.cell? ⟨gX, 0, none⟩ = some (.int .i64 (x : Int))) (first | exact ⟨c3, c6, hr1, hcX⟩ | exact HS4.out) (fail)
              go_wp2_with fail
              go_roundg 1
              case measure => omega
              case rel => exact ⟨1, rfl, rfl, .inr ⟨rfl, HD4.out.keep (below_drew _), HF4.out.trans (Below.frameF (below_drew _) F) (fun _ _ e => e)⟩⟩
            · have D4 := hid hD4
              have F4 := hid hF4
              clear hD4 hF4 c3 hct zt hr0 hr1 hcX c6
              generalize wr = w4 at *
              have c6 : w4.cell? ⟨g, 6, none⟩ = some (.slice (some ⟨gF, 0, none⟩) ln c) := D4.out.tab.cell 6
              have hr1 : w4.cell? ⟨gF, i * 2 + 1, none⟩ = some (.slice (some ⟨gX, 0, none⟩) 1 cX) := by have := World.ownsRow.cells D4.out.fly.1 rfl _ _ (chRow_get Hp.out).2; rw [add_off, Nat.zero_add] at this; exact this
              obtain ⟨rm, hrm⟩ : ∃ rm, ln = i + 1 + rm := ⟨ln - (i + 1), by omega⟩
              obtain ⟨ii, hif, hz, hss, hbyy⟩ := info_parts chinfo
              have hcut1 := run_cut_to (P := Try.prog) (T := 109) Try.underlying109 hif (some ⟨gF, 0, none⟩) ln c .i64 (i : Int) i rfl (by have := Hlc.out; omega)
              have hcut2 := run_cut_from (P := Try.prog) (T := 109) Try.underlying109 hif (some ⟨gF, 0, none⟩) ln c .i64 ((i : Int) + 1) (i + 1) rm (by omega) hrm Hlc.out.1
              rw [hss] at hcut1 hcut2
              have hrow := RowN.of_own D4.out.fly.1
              rw [Hln.out] at hrow
              have R1 := hid (RowN.cut hrow (l := 0) (k := i) (by omega))
              have R2 := hid (RowN.cut hrow (l := i + 1) (k := rm) (by omega))
              have e1 : ((chRow l).drop (0 * 2)).take (i * 2) = chRow (l.take i) := by rw [Nat.zero_mul, List.drop_zero, chRow_take l i (by rw [Hln.out]; omega)]
              have e2 : ((chRow l).drop ((i + 1) * 2)).take (rm * 2) = chRow (l.drop (i + 1)) := by rw [chRow_drop l (i + 1) (by rw [Hln.out]; omega), List.take_of_length_le (by rw [chRow_len, List.length_drop, Hln.out]; omega)]
              rw [e1, Nat.sub_zero] at R1
              rw [e2] at R2
              have Hone := hid (show (∀ u ∈ chRow (l.take i), u.oneCell' = true) ∧ (∀ u ∈ chRow (l.drop (i + 1)), u.oneCell' = true) from by
                have ha : ∀ p ∈ l, p.2.oneCell' = true := fun p hp => by
                  obtain ⟨_, _, hv, _⟩ := own_one (D4.out.fly.2.2 p hp).1
                  rw [hv]
                  rfl
                exact ⟨chRow_one (fun p hp => ha p (List.mem_of_mem_take hp)), chRow_one (fun p hp => ha p (List.mem_of_mem_drop hp))⟩)
              have Hib := hid (show i + rm ≤ 1000000000 by omega)
              have hic : i ≤ c := by have := Hlc.out; omega
              have hlc : ln ≤ c := Hlc.out.1
              have hilI : (i : Int) + 1 ≤ (ln : Int) := by omega
              have hwi : IntKind.i64.wrap ((i : Int) + 1) = (i : Int) + 1 := IntWalk.i64_in _ (by omega)
              have Hrm := hid hrm
              clear hif hz hss hbyy hrow e1 e2 hrm
              go_wp2_with (first
                | ((with_reducible show wpList _ _ _ (Oper.mk (some 125) _ _ _ _ _ :: _) _ _); refine wpList_app _ rfl _ _ 109 rfl w4.heap.size 125 (.agg #[.int .i64 0, .slice none 0 0]) 2 32 chok (.slice none 0 0) 0 [] rfl (World.ownsRow_nil _ _ _ _) (.slice (cutA (some ⟨gF, 0, none⟩) c 0 2) i c) i (chRow (l.take i)) rfl R1.out Hone.out.1 (by have := Hib.out; omega) (by have := Hib.out; simp only [maxLen]; omega) (Nat.le_refl _) ?_; intro v5 w5 hown5 hg5 hat5; have O5 := hid hown5; have B5 := hid (show Below w4.heap.size w4 w5 from grown_below (World.ownsRow_nil w4 w4.heap.size 125 2) (Nat.le_refl _) hg5); have c6 := cell_below B5.out c6; have z6 := (D4.out.keep B5.out).tab.frozen 6; clear hown5 hg5 hat5)
                | ((with_reducible show wpList _ _ _ (Oper.mk (some 135) _ _ _ _ _ :: _) _ _); refine wpList_app _ rfl _ _ 109 rfl w4.heap.size 125 (.agg #[.int .i64 0, .slice none 0 0]) 2 32 chok v5 (0 + i) _ rfl O5.out (.slice (cutA (some ⟨gF, 0, none⟩) c (i + 1) 2) rm (c - (i + 1))) rm (chRow (l.drop (i + 1))) rfl (R2.out.below B5.out) Hone.out.2 (by have := Hib.out; omega) (by have := Hib.out; simp only [maxLen]; omega) B5.out.size ?_; intro v6 w6 hown6 hg6 hat6; rw [Nat.zero_add] at hown6; obtain ⟨_, A6, k6, rfl, _, _, _⟩ := RowN.of_own hown6; have O6 := hid hown6; have B6 := hid (B5.out.trans (grown_below O5.out B5.out.size hg6)); have c6 : w6.cell? ⟨g, 6, none⟩ = some (.slice (some ⟨gF, 0, none⟩) ln c) := (D4.out.keep B6.out).tab.cell 6; have z6 := (D4.out.keep B6.out).tab.frozen 6; clear hown6 hg6 hat6))
              have hz6 := D4.out.flt
              have K6 := D4.out.keep B6.out
              have hz4 := F4.out.size
              have hF6 := hid (show ∀ k, (Value.slice A6 (i + rm) k6).ownBlock = some k → w4.heap.size ≤ k ∧ k < w6.heap.size from fun k hk => World.ownsRow.lt O6.out k hk)
              have hfly : FlyAt w6 base (.slice A6 (i + rm) k6) (l.take i ++ l.drop (i + 1)) (fun k => F k ∨ (Value.slice A6 (i + rm) k6).ownBlock = some k) := by
                refine ⟨?_, fun k hk => .inr hk, fun p hp => ?_⟩
                · have h1 := O6.out
                  rw [List.nil_append, ← chRow_app] at h1
                  rw [show (l.take i ++ l.drop (i + 1)).length = i + rm by rw [List.length_append, List.length_take, List.length_drop, Hln.out]; have := Hrm.out; omega]
                  exact own_mono h1 (by have := (D4.out.flt g D4.out.fg); omega)
                · have hpl : p ∈ l := by
                    rcases List.mem_append.1 hp with e | e
                    · exact List.mem_of_mem_take e
                    · exact List.mem_of_mem_drop e
                  exact ⟨(K6.fly.2.2 p hpl).1, fun k hk => .inl ((K6.fly.2.2 p hpl).2 k hk)⟩
              have hmid := K6.fly_ (fun k hk => .inl hk) (fun k hk => hk.elim (fun e => K6.flt k e) (fun e => by have := hF6.out k e; have := (D4.out.flt g D4.out.fg); omega)) hfly
              have her := fly_erase HD.out.nod HD.out.mem Hp.out
              have H9 := hid (show RDrv (w6.setCell ⟨g, 6, none⟩ (.slice A6 (i + rm) k6)) base gm L b n g { q with got := gt1, busy := q.busy.set x false } m (fun k => F k ∨ (Value.slice A6 (i + rm) k6).ownBlock = some k) from
                ⟨gt, _, _, hmid, by show (q.busy.set x false).length = n; rw [List.length_set]; exact HD.out.len, HD.out.put, hgt1l, her.1, her.2, by have := HD.out.lm; rw [List.length_append, List.length_take, List.length_drop]; omega⟩)
              have H8 := hid (F4.out.trans ((Below.frameF B6.out F).trans (frame_mem (grown_set w6 g 6 (.slice A6 (i + rm) k6))) (fun k _ e => e ▸ D4.out.fg)) (fun _ _ e => e) : Frame F w (w6.setCell ⟨g, 6, none⟩ (.slice A6 (i + rm) k6)))
              clear hz6 K6 hfly hmid her
              go_ret3
              rw [Hr.out]
              exact ⟨rfl, _, H9.out, H8.out, fun k hk => hk.imp_right (fun e => Nat.le_trans hz4 (hF6.out k e).1)⟩
        · have hxI : ¬ (x : Int) = (hd : Int) := by omega
          have Hx := hid hx
          clear hx hp hpm
          go_wp2_with fail
          go_roundg (ln - (i + 1))
          case measure => exact Hms.out.1
          case rel => exact ⟨i + 1, Hms.out.2, by go_num, fun j p hj hjp => by
            by_cases e : j = i
            · subst e
              rw [Hp.out] at hjp
              injection hjp with hjp
              subst hjp
              exact Hx.out
            · exact Hne.out j p (by omega) hjp, rfl⟩
      · obtain rfl : i = ln := by omega
        have hltI : ¬ (i : Int) < (i : Int) := by omega
        have hnot : q.busy[hd]? ≠ some true := fun e => by
          have hm := (HD.out.mem hd).2 e
          obtain ⟨p, hp, he⟩ := List.mem_map.1 hm
          obtain ⟨j, hj, hjp⟩ := List.mem_iff_getElem.1 hp
          exact Hne.out j p (by rw [← Hln.out]; exact hj) (by rw [List.getElem?_eq_getElem hj, hjp]) he
        have Hr := hid (show vUsed M b n q = some (none, { q with got := gt1 }) by rw [Hv.out, if_neg hnot])
        have h9 := hid (show RDrv w3 base gm L b n g { q with got := gt1 } m F from ⟨gt, _, l, D3.out, HD.out.len, HD.out.put, hgt1l, HD.out.nod, HD.out.mem, HD.out.lm⟩)
        clear hnot hi hlt
        go_wp2_with fail
        go_ret3
        rw [Hr.out]
        exact ⟨rfl, F, h9.out, F3.out, fun k hk => .inl hk⟩
end Go.Proofs.Ytgiegiobigdplaa
