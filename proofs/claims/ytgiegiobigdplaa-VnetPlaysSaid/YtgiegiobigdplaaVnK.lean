/- A card's queue offers a place. -/
import Derived.Test.YtgiegiobigdplaaMapI
import Derived.WideKeyEntry
import Derived.Test.YtgiegiobigdplaaVnJ
namespace Go.Proofs.Ytgiegiobigdplaa
section
open Go Go.RowKit
open Go.Maps (Keyed)
open Go.ChangeMaps Go.MapKept Go.WideShapes

section
variable {P : Program} {k : TypeId} {w : World} {b n : Nat} {f : Nat → Option Value}
/-- the block of a map, whatever its entries -/
def setMap (w : World) (b : Nat) (es : Array MapEntry) (clock : Nat) : World := setBlock w b (.map es clock)
theorem grown_setMap {es es' : Array MapEntry} {clock clock' : Nat} (hb : w.heap[b]? = some (.map es clock)) : w.grownBy (setMap w b es' clock') (some b) :=
  ⟨rfl, rfl, rfl, by simp [setMap, setBlock], fun i _ hi => heap_setBlock_other hb _ (fun e => hi (by rw [e]))⟩
theorem MapI.entry {t e : TypeId} (h : MapI P k w b n f) (hk : P.underlying k = some (.int .i64)) (ht : P.underlying t = some (.map k e)) {z : Value} (hz : ∀ u : World, (zeroValue e).run P u = .ok z u) (hn : n < maxLen) (x : Nat) (hx : x < 4294967296) :
    ∃ w1 v0 st, (Instr.mapEntry t (.map (some b)) (.int .i64 (x : Int))).run P w = .ok (.tuple #[v0, st]) w1 ∧ w.grownBy w1 (some b) ∧
      ∀ w2 val, w2.heap[b]? = w1.heap[b]? → ∃ w3, (Instr.entryStore t (.map (some b)) st val).run P w2 = .ok () w3 ∧ MapI P k w3 b (n + 1) (updI f x (some val)) ∧ w2.grownBy w3 (some b) := by
  have hput := fun val => h.put hk ht hn x hx val
  obtain ⟨D, ⟨es, clock, hb, F, hs, rfl⟩, _⟩ := h
  have hkey := key_int hk x hx
  have K := Maps.int_keyed hk
  obtain ⟨s1, s2, _⟩ := F.stamped
  -- where both roads end: the same block
  have fin : ∀ (es1 : Array MapEntry) (c1 : Nat) (st : Int), (∀ (w2 : World) (val : Value), w2.heap[b]? = some (.map es1 c1) → ∃ es' c', (Instr.entryStore t (.map (some b)) (.int .i64 st) val).run P w2 = .ok () (setMap w2 b es' c') ∧ (Instr.mapUpdate t (.map (some b)) (.int .i64 (x : Int)) val).run P w = .ok () (setMap w b es' c')) →
      ∀ w2 val, w2.heap[b]? = (setMap w b es1 c1).heap[b]? → ∃ w3, (Instr.entryStore t (.map (some b)) (.int .i64 st) val).run P w2 = .ok () w3 ∧ MapI P k w3 b (n + 1) (updI f x (some val)) ∧ w2.grownBy w3 (some b) := by
    intro es1 c1 st hes w2 val hw2
    have hw3 : w2.heap[b]? = some (.map es1 c1) := hw2.trans (heap_setBlock_same hb _)
    obtain ⟨es', c', r1, r2⟩ := hes w2 val hw3
    obtain ⟨w', q1, q2, _⟩ := hput val
    rw [r2] at q1
    injection q1 with _ q1
    refine ⟨_, r1, q2.block ?_, grown_setMap hw3⟩
    rw [← q1]
    exact (heap_setBlock_same hw3 _).trans (heap_setBlock_same hb _).symm
  rcases K.find w hkey es.toList F.keys with ⟨h1, _⟩ | ⟨j, e0, h1, h2, h3⟩
  · refine ⟨setMap w b (es.push ⟨.int .i64 (x : Int), z, clock⟩) (clock + 1), z, .int .i64 (clock : Int), ?_, grown_setMap hb, fin _ _ _ fun w2 val hw2 => ⟨es.push ⟨.int .i64 (x : Int), val, clock⟩, clock + 1, ?_, ?_⟩⟩
    · simp [Instr.mapEntry, run_underlying ht, MapKept.run_getObj_map hb, K.check w false hkey, h1, hz, MapKept.run_setObj_map _ hb, Result.andThen, setMap, setBlock, goInt]
    · have hidx : (es.push ⟨.int .i64 (x : Int), z, clock⟩).findIdx? (fun e => ((e.born : Nat) : Int) == ((clock : Nat) : Int)) = some es.size := by
        rw [WideElems.findIdx_arr]
        refine WideElems.findIdx_born (l := (es.push ⟨.int .i64 (x : Int), z, clock⟩).toList) (j := es.size) (e0 := ⟨.int .i64 (x : Int), z, clock⟩) ?_ (by simp)
        rw [Array.toList_push, List.map_append]
        refine List.nodup_append.2 ⟨s2, by simp, fun a ha c hc e1 => ?_⟩
        obtain ⟨y, hy, rfl⟩ := List.mem_map.1 ha
        have hlt := s1 y hy
        simp at hc
        omega
      have hmod : (es.push ⟨.int .i64 (x : Int), z, clock⟩).modify es.size (fun e => { e with val := val }) = es.push ⟨.int .i64 (x : Int), val, clock⟩ := by
        apply Array.ext'
        rw [Array.toList_modify, Array.toList_push, Array.toList_push, ← Array.length_toList, WideElems.modify_last]
      simp [Instr.entryStore, MapKept.run_getObj_map hw2, asInt, asIntOf, hidx, hmod, MapKept.run_setObj_map _ hw2, Result.andThen, setMap, setBlock]
    · simp [Instr.mapUpdate, run_underlying ht, MapKept.run_getObj_map hb, K.check w false hkey, h1, MapKept.run_setObj_map _ hb, Result.andThen, setMap, setBlock]
  · have hj : es[j]? = some e0 := by simpa using h2
    have hsame : es.modify j (fun e => { e with key := .int .i64 (x : Int) }) = es := by
      apply Array.ext'
      rw [Array.toList_modify, modify_eq_set _ _ _ _ h2]
      have : ({ e0 with key := .int .i64 (x : Int) } : MapEntry) = e0 := by rw [← h3]
      rw [this]
      exact WideElems.set_self _ _ _ h2
    refine ⟨setMap w b es clock, e0.val, .int .i64 (e0.born : Int), ?_, grown_setMap hb, fin _ _ _ fun w2 val hw2 => ⟨es.modify j (fun e' => { e' with key := .int .i64 (x : Int), val := val }), clock, ?_, ?_⟩⟩
    · simp [Instr.mapEntry, run_underlying ht, MapKept.run_getObj_map hb, K.check w false hkey, h1, hj, h3, K.stays w hkey, hsame, MapKept.run_setObj_map _ hb, Result.andThen, setMap, setBlock, goInt]
    · have hidx : es.findIdx? (fun e => ((e.born : Nat) : Int) == ((e0.born : Nat) : Int)) = some j := by
        rw [WideElems.findIdx_arr]
        exact WideElems.findIdx_born s2 h2
      have hmod : es.modify j (fun e => { e with val := val }) = es.modify j (fun e' => { e' with key := .int .i64 (x : Int), val := val }) := by
        apply Array.ext'
        rw [Array.toList_modify, Array.toList_modify, modify_eq_set _ _ _ _ h2, modify_eq_set _ _ _ _ h2, ← h3]
      simp [Instr.entryStore, MapKept.run_getObj_map hw2, asInt, asIntOf, hidx, hmod, MapKept.run_setObj_map _ hw2, Result.andThen, setMap, setBlock]
    · simp [Instr.mapUpdate, run_underlying ht, MapKept.run_getObj_map hb, K.check w false hkey, h1, hj, h3, K.stays w hkey, MapKept.run_setObj_map _ hb, Result.andThen, setMap, setBlock]
end
end
section
open Go Go.RowKit
attribute [local go_sem ↓] Go.wp_at_zero Go.wp_at_succ
set_option maxRecDepth 100000
set_option linter.unusedSimpArgs false

/-- the place of a head: its own number, while it flies -/
def headF (busy : List Bool) (h : Nat) : Option Value := if busy[h]? = some true then some (.int .i64 (h : Int)) else none
theorem headF_set (busy : List Bool) (p : Nat) (hp : p < busy.length) : updI (headF busy) p (some (.int .i64 (p : Int))) = headF (busy.set p true) := by
  funext y
  unfold updI headF
  by_cases e : y = p
  · subst e
    rw [if_pos rfl, List.getElem?_set, if_pos rfl, if_pos hp, if_pos rfl]
  · rw [if_neg e, show (busy.set p true)[y]? = busy[y]? from by rw [List.getElem?_set, if_neg (fun e2 => e e2.symm)]]
theorem headF_drop (busy : List Bool) (p : Nat) : updI (headF busy) p none = headF (busy.set p false) := by
  funext y
  unfold updI headF
  by_cases e : y = p
  · subst e
    rw [if_pos rfl, List.getElem?_set, if_pos rfl]
    split
    · rw [if_neg (by simp)]
    · rw [if_neg (by simp)]
  · rw [if_neg e, show (busy.set p false)[y]? = busy[y]? from by rw [List.getElem?_set, if_neg (fun e2 => e e2.symm)]]
/-- a card's queue: its driver, what of its places is taken, and the heads' places -/
structure QAt (w : World) (base gm b n : Nat) (q : VQ) (m gd gp gh : Nat) (FD : Nat → Prop) : Prop where
  drv : DrvInv w base gm b n gd q m FD
  pl : Blk w gp 4 (q.busy.map Value.bool)
  hm : MapI Try.prog 3 w gh m (headF q.busy)
  np : ¬ FD gp
  nh : ¬ FD gh
  lp : base ≤ gp
  lh : base ≤ gh
/-- its blocks -/
def fq (FD : Nat → Prop) (gp gh : Nat) : Nat → Prop := fun k => FD k ∨ k = gp ∨ k = gh
section
variable {w w' : World} {base gm b n : Nat} {q : VQ} {m gd gp gh : Nat} {FD : Nat → Prop}
theorem QAt.frame {G : Nat → Prop} (h : QAt w base gm b n q m gd gp gh FD) (hf : Frame G w w') (hd : ∀ k, fq FD gp gh k → ¬ G k) : QAt w' base gm b n q m gd gp gh FD :=
  ⟨h.drv.frame hf (fun k hk => hd k (.inl hk)), hf.blk h.pl (hd _ (.inr (.inl rfl))), h.hm.block (hf.block gh h.hm.lt (hd _ (.inr (.inr rfl)))), h.np, h.nh, h.lp, h.lh⟩
theorem QAt.keep (h : QAt w base gm b n q m gd gp gh FD) (hb : Below w.heap.size w w') : QAt w' base gm b n q m gd gp gh FD := h.frame (G := fun _ => False) (Below.frameF hb _) (fun _ _ => id)
theorem QAt.bd (h : QAt w base gm b n q m gd gp gh FD) (k : Nat) (hk : fq FD gp gh k) : base ≤ k ∧ k < w.heap.size := by
  rcases hk with hk | rfl | rfl
  · exact h.drv.bd k hk
  · exact ⟨h.lp, h.pl.lt⟩
  · exact ⟨h.lh, h.hm.lt⟩
theorem QAt.len (h : QAt w base gm b n q m gd gp gh FD) : q.busy.length = n := by obtain ⟨_, _, _, h⟩ := h.drv; exact h.len
theorem QAt.put (h : QAt w base gm b n q m gd gp gh FD) : q.put < 65536 := by obtain ⟨_, _, _, h⟩ := h.drv; exact h.put
theorem QAt.got (h : QAt w base gm b n q m gd gp gh FD) : q.got < 65536 := by obtain ⟨_, _, _, h⟩ := h.drv; exact h.got
end
/-- the cells of a queue, in a card -/
structure QCells (w : World) (gC o gd fr gp gh n : Nat) : Prop where
  c0 : w.cell? ⟨gC, o, none⟩ = some (.pointer (some ⟨gd, 0, none⟩))
  c1 : w.cell? ⟨gC, o + 1, none⟩ = some (.int .i64 (fr : Int))
  c2 : w.cell? ⟨gC, o + 2, none⟩ = some (.slice (some ⟨gp, 0, none⟩) n n)
  c3 : w.cell? ⟨gC, o + 3, none⟩ = some (.map (some gh))
theorem QCells.frame {F : Nat → Prop} {w w' : World} {gC o gd fr gp gh n : Nat} (h : QCells w gC o gd fr gp gh n) (hf : Frame F w w') (hn : ¬ F gC) : QCells w' gC o gd fr gp gh n :=
  ⟨cell_frame hf h.c0 hn, cell_frame hf h.c1 hn, cell_frame hf h.c2 hn, cell_frame hf h.c3 hn⟩
theorem QCells.keep {w w' : World} {gC o gd fr gp gh n : Nat} (h : QCells w gC o gd fr gp gh n) (hb : Below w.heap.size w w') : QCells w' gC o gd fr gp gh n := h.frame (F := fun _ => False) (Below.frameF hb _) id
theorem vqat_at (gC o gd fr gp gh n p : Nat) (w : World) (h : QCells w gC o gd fr gp gh n) (hf : fr ≤ 1000000) (hp : p ≤ 1000) :
    Calls Try.prog 38 #[.pointer (some ⟨gC, o, none⟩), .int .i64 (p : Int)] w fun e w' => e = .returned (.int .i64 ((fr + p * 1528 : Nat) : Int)) ∧ w' = w := by
  have c1 := h.c1
  obtain ⟨s, hs⟩ : ∃ x : Nat, fr + p * 1528 = x := ⟨_, rfl⟩
  have hsI : (fr : Int) + (p : Int) * 1528 = (s : Int) := by omega
  rw [hs]
  clear h hs
  go_enter Try.func38, Try.ntmps38
  go_wp2_with fail
  go_ret
  exact ⟨rfl, rfl⟩
def OfferPost (base gm b n : Nat) (q : VQ) (m gd gp gh p addr len fl : Nat) (FD : Nat → Prop) (M : List UInt8) (w : World) (e : Ending) (w' : World) : Prop :=
  (∃ u, e = .returned u) ∧ ∃ FD', QAt w' base gm b n (q.add p) (m + 1) gd gp gh FD' ∧ MemAt w' gm (vAddM M b n q.put p addr len fl) ∧ Frame (fun k => fq FD gp gh k ∨ k = gm) w w' ∧ ∀ k, FD' k → FD k ∨ w.heap.size ≤ k
theorem zero_int (w : World) : (zeroValue 3).run Try.prog w = .ok (.int .i64 0) w := by
  obtain ⟨i, hi, hz, _, _⟩ := info_parts intinfo
  simp [zeroValue, typeInfo, hi, hz]
set_option maxHeartbeats 4000000 in
theorem voffer_at (base gm b n gC o gd fr gp gh m p addr len : Nat) (write : Bool) (fl : Nat) (q : VQ) (FD : Nat → Prop) (M : List UInt8) (w : World) (h : QAt w base gm b n q m gd gp gh FD) (hc : QCells w gC o gd fr gp gh n) (hm : MemAt w gm M) (hfm : ¬ fq FD gp gh gm) (hcm : gC ≠ gm) (hcf : ¬ fq FD gp gh gC)
    (hok : okN (n : Int) = true) (hb : b + vSize n ≤ M.length) (hi : q.busy[p]? = some false) (hlt : ∀ j, j < p → q.busy[j]? = some true) (hfr : fr ≤ 1000000) (ha : fr + p * 1528 = addr) (hlen : len < 4294967296) (hm1 : m < 1000000000) (hfl : fl = if write then 2 else 0) :
    Calls Try.prog 29 #[.pointer (some ⟨gC, o, none⟩), .int .i64 (p : Int), .int .i64 (len : Int), .bool write] w (OfferPost base gm b n q m gd gp gh p addr len fl FD M w) := by
  have hn := okN_le hok
  have hpn : p < n := by have := (List.getElem?_eq_some_iff.1 hi).1; rw [h.len] at this; exact this
  have HQ := hid h
  have HC := hid hc
  have HM := hid hm
  have Hs := hid (And.intro hfm (And.intro hcm hcf))
  have HAt := hid (fun wy (y : Below w.heap.size w wy) => vqat_at gC o gd fr gp gh n p wy (hc.keep y) hfr (by omega))
  rw [ha] at HAt
  have haL : addr ≤ 2000000 := by omega
  have HAd := hid (fun wy gl (y : Below w.heap.size w wy) (hl : Blk wy gl 93 [.int .i64 (addr : Int), .int .i64 (len : Int), .bool write]) => vadd_at base gm b n gd m p addr len gl write q M FD wy (h.drv.keep y) (hm.keep y) (fun e => hfm (.inl e)) hok hb hi hlt hl (by omega) hlen hm1 fl hfl)
  have c0 := hc.c0
  have Hm1 := hid hm1
  clear h hc hm hfm hcm hcf hok hb hi hlt ha hfl hm1
  go_enter Try.func29, Try.ntmps29
  go_upto_region 0 with fail
  go_region_held3 (fun wy => wy.cell? ⟨gC, o, none⟩ = some (.pointer (some ⟨gd, 0, none⟩))) (first | exact c0 | exact cell_below (below_drew _) c0 | exact cell_below (below_alloc' (below_drew _) _) c0 | exact r0) (first
    | (go_at_call 38; refine (HAt.out _ (by first | exact Below.refl _ _ | exact below_drew _)).mono ?_; rintro e w' ⟨rfl, hw⟩; have hw := hw.symm; subst hw)
    | (go_at_call 51; refine (HAd.out _ w.heap.size (below_alloc' (below_drew w) _) (Blk.new w.drew 93 #[.int .i64 (addr : Int), .int .i64 (len : Int), .bool write])).mono ?_; rintro e w2 ⟨rfl, FD2, hd2, hm2, hf2, hn2⟩; have D2 := hid hd2; have M2 := hid hm2; have F2 := hid ((Below.frameF (below_alloc' (below_drew w) _) _).trans hf2 (fun _ _ h => h)); have N2 := hid (fun k hk => (hn2 k hk).imp_right (fun e => Nat.le_trans (below_alloc' (below_drew w) _).size e)); have r0 := cell_frame hf2 (cell_below (below_alloc' (below_drew w) (.cells #[.int .i64 (addr : Int), .int .i64 (len : Int), .bool write] 93)) c0) (fun e => e.elim (fun e => Hs.out.2.2 (.inl e)) Hs.out.2.1); clear hd2 hm2 hf2 hn2)
    | fail)
  have QC2 := hid (HC.out.frame F2.out (fun e => e.elim (fun e => Hs.out.2.2 (.inl e)) Hs.out.2.1))
  have P2 := hid (F2.out.blk HQ.out.pl (fun e => e.elim HQ.out.np (fun e => Hs.out.1 (.inr (.inl e.symm)))))
  have H2 := hid (HQ.out.hm.block (F2.out.block gh HQ.out.hm.lt (fun e => e.elim HQ.out.nh (fun e => Hs.out.1 (.inr (.inr e.symm))))))
  obtain ⟨w3, v0, st, hrun, hg3, hst⟩ := MapI.entry (H2.out.keep (below_drew w2)) Try.underlying3 Try.underlying56 zero_int (by simp only [maxLen]; have := Hm1.out; omega) p (by omega)
  obtain ⟨w4, hrun2, hm4, hg4⟩ := hst w3 (.int .i64 (p : Int)) rfl
  have Hg3 := hid hg3
  have Hg4 := hid hg4
  have Hm4 := hid hm4
  have HpC := hid (show gC ≠ gh from fun e => Hs.out.2.2 (.inr (.inr e)))
  have d2 := cell_below (below_drew w2) QC2.out.c2
  have d3 := cell_below (below_drew w2) QC2.out.c3
  have f3 := frame_mem hg3
  have f4 := frame_mem hg4
  have e2 := cell_frame f3 d2 HpC.out
  have e3 := cell_frame f3 d3 HpC.out
  have P3 := hid (f3.blk (P2.out.keep (below_drew _)) (H2.out.ne P2.out))
  have P4 := hid (f4.blk P3.out (H2.out.ne P2.out))
  obtain ⟨old, hcell⟩ : ∃ old, w4.cell? ⟨gp, p, none⟩ = some old := by
    have hlt : p < (q.busy.map Value.bool).length := by rw [List.length_map, HQ.out.len]; exact hpn
    exact ⟨_, (P4.out.cell p).trans (List.getElem?_eq_getElem hlt)⟩
  have hzf := P4.out.frozen p
  have hpI : (p : Int) < (n : Int) := by omega
  clear hg3 hst hg4 hm4 f3 f4
  go_wp2_with fail
  go_upto_region 2 with fail
  go_region_law (fail)
  all_goals
    go_wp2_with fail
    go_end0
    have g5 := grown_set w4 gp p (.bool true)
    have f5 : Frame (fun k => k = gh ∨ k = gp) w2 (w4.setCell ⟨gp, p, none⟩ (.bool true)) :=
      (((Below.frameF (below_drew w2) (fun k => k = gh ∨ k = gp)).trans (frame_mem Hg3.out) (fun _ _ e => .inl e)).trans (frame_mem Hg4.out) (fun _ _ e => .inl e)).trans (frame_mem g5) (fun _ _ e => .inr e)
    have hgh : gh < w.heap.size := HQ.out.hm.lt
    have hgp : gp < w.heap.size := HQ.out.pl.lt
    have hno : ∀ k, FD2 k → ¬ (k = gh ∨ k = gp) := fun k hk e => by
      rcases e with rfl | rfl
      · rcases N2.out _ hk with e | e
        · exact HQ.out.nh e
        · omega
      · rcases N2.out _ hk with e | e
        · exact HQ.out.np e
        · omega
    have hpl := P4.out.set_ p (.bool true)
    rw [← List.map_set] at hpl
    have hne : gp ≠ gh := H2.out.ne P2.out
    refine ⟨⟨_, rfl⟩, FD2, ⟨D2.out.frame f5 hno, hpl, ?_, fun e => hno _ e (.inr rfl), fun e => hno _ e (.inl rfl), HQ.out.lp, HQ.out.lh⟩, M2.out.frame f5 (fun e => Hs.out.1 (e.elim (fun e => .inr (.inr e)) (fun e => .inr (.inl e)))), (F2.out.weaken (fun _ _ e => e.elim (fun e => .inl (.inl e)) .inr)).trans f5 (fun _ _ e => e.elim (fun e => .inl (.inr (.inr e))) (fun e => .inl (.inr (.inl e)))), N2.out⟩
    have hm5 := Hm4.out.kept g5 (fun e => by injection e with e; exact hne e.symm)
    rw [headF_set q.busy p (by rw [HQ.out.len]; exact hpn)] at hm5
    exact hm5
end
end Go.Proofs.Ytgiegiobigdplaa
