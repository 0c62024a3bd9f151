/- The document's Add: where it waits. -/
import Derived.Test.YtbjiicnagfeciaaRPtV
import Derived.Test.YtbjiicnagfeciaaRPtG
import Derived.Test.YtbjiicnagfeciaaRPtS
import Derived.Deep.CutRange
import Derived.Deep.RegionHeld3
namespace Go.Proofs.Ytbjiicnagfeciaa
section
open Go Go.RowKit
attribute [local go_sem ↓] Go.wp_at_zero Go.wp_at_succ
set_option maxRecDepth 100000
set_option linter.unusedSimpArgs false

theorem rfind_o (base g : Nat) (clock : Int) (L : List RIt) (m : Nat) (vr : Value) (F : Nat → Prop) (v : Value) (p : Pk) (w : World) (h : RPtAt w base g clock L m vr F) (hb : Bs w v p.body) :
    Calls Try.prog 46 #[.pointer (some ⟨g, 0, none⟩), .agg (pkCells p v).toArray] w fun e w' => ∃ o : Option Nat, e = .returned (ptrV o) ∧ Below w.heap.size w w' ∧ (o = none ∧ (∀ x ∈ L, x.w.k ≠ p.key) ∨ ∃ x ∈ L, o = some x.g ∧ x.w.k = p.key) := by
  refine (rfind_at base g clock L m vr F v p w h hb).mono ?_
  rintro e w' ⟨hb, ⟨rfl, hno⟩ | ⟨x, hx, rfl, hk⟩⟩
  · exact ⟨none, rfl, hb, .inl ⟨rfl, hno⟩⟩
  · exact ⟨some x.g, rfl, hb, .inr ⟨x, hx, rfl, hk⟩⟩
theorem rptr_nil (o : Option Nat) (w : World) : (binOp .neq 102 (ptrV o) (.pointer none)).run Try.prog w = .ok (.bool o.isSome) w := by cases o <;> kernel_rfl
theorem rptr_nil2 (o : Option Nat) (w : World) : (binOp .eql 102 (ptrV o) (.pointer none)).run Try.prog w = .ok (.bool o.isNone) w := by cases o <;> kernel_rfl
theorem rptr_guard (q : BinOp) (hq : q = .eql ∨ q = .neq) (a b : Operand) (o : Option Nat) (w : World) : (eqGuard q 102 a b (ptrV o) (.pointer none)).run Try.prog w = .ok () w := by
  rcases hq with rfl | rfl <;> cases o <;> rfl

theorem bs_frame {w w' : World} {F : Nat → Prop} {v : Value} {bs : List UInt8} (h : Bs w v bs) (hf : Frame F w w') (hv : ∀ a n c, v = .slice (some a) n c → n ≠ 0 → ¬ F a.block) : Bs w' v bs := by
  obtain ⟨h1, A, cap, rfl, h2, h3, h4⟩ := h
  refine ⟨h1, A, cap, rfl, h2, h3, ?_⟩
  by_cases hz : bs.length = 0
  · exact .inl hz
  rcases h4 with h4 | ⟨b, off, rfl, hc⟩
  · exact .inl h4
  · refine .inr ⟨b, off, rfl, fun i x hx => ?_⟩
    have h5 := hc i x hx
    have hlt := World.block_lt_of_cell? w _ h5
    have h6 := hf.block b hlt (hv _ _ _ rfl hz)
    rw [← h5]
    unfold World.cell?
    simp only [h6]
theorem pFind_some {w : World} {base g : Nat} {clock : Int} {L : List RIt} {m : Nat} {vr : Value} {F : Nat → Prop} (h : RPtAt w base g clock L m vr F) {x : RIt} (hx : x ∈ L) : pFind (L.map RIt.w) x.w.k = (L.map RIt.w, x.w) := by
  unfold pFind
  have : (L.map RIt.w).find? (fun y => decide (y.k = x.w.k)) = some x.w := by
    cases e : (L.map RIt.w).find? (fun y => decide (y.k = x.w.k)) with
    | none => exact absurd (decide_eq_true rfl) (List.find?_eq_none.1 e x.w (List.mem_map_of_mem hx))
    | some y =>
      have h1 := List.find?_some e
      obtain ⟨z, hz, rfl⟩ := List.mem_map.1 (List.mem_of_find?_eq_some e)
      have h1 : z.w.k = x.w.k := of_decide_eq_true h1
      rw [h.one hx hz (.inl h1)]
  rw [this]
theorem pFind_none {L : List RIt} {k : PKey} (h : ∀ x ∈ L, x.w.k ≠ k) : pFind (L.map RIt.w) k = ((if L.length = 4 then L.drop 1 else L).map RIt.w ++ [⟨k, [], -1, 0⟩], ⟨k, [], -1, 0⟩) := by
  unfold pFind
  have : (L.map RIt.w).find? (fun y => decide (y.k = k)) = none := List.find?_eq_none.2 fun y hy => by
    obtain ⟨z, hz, rfl⟩ := List.mem_map.1 hy
    rw [decide_eq_true_eq]
    exact h z hz
  rw [this]
  have e2 : (if (L.map RIt.w).length = 4 then (L.map RIt.w).drop 1 else L.map RIt.w) = (if L.length = 4 then L.drop 1 else L).map RIt.w := by
    rw [List.length_map]
    split
    · rw [List.map_drop]
    · rfl
  show (_ ++ [_], _) = _
  rw [e2]
def rpkz : Value := .agg #[.int .u32 0, .int .u32 0, .int .i64 0, .int .i64 0, .int .i64 0, .bool false, .bool false, .int .i64 0, .slice none 0 0]
theorem rpkki : (Try.prog.info? 35).map (fun i => (i.zero, i.size, i.bytes)) = some (some rpkz, 9, 72) := by kernel_rfl
theorem rpkk : ElemOk Try.prog 32 35 rpkz 9 72 := by
  obtain ⟨i, hi, h1, h2, h3⟩ := info_parts rpkki
  exact ⟨Try.underlying32, ⟨i, hi, h1, h2, h3⟩, rfl, by decide, by decide⟩
theorem whole_len {x : Wt} (h : Snd x) (k : PKey) : (pWhole k x.parts x.fin).1.body.length ≤ 65515 := by
  unfold pWhole
  by_cases hf : x.fin < 0
  · rw [if_pos hf]; exact Nat.zero_le _
  · rw [if_neg hf]
    show (pBody x.fin.toNat x.parts).length ≤ 65515
    have hle := h.ok.le (by omega)
    have := (pbody_at x.parts x.fin.toNat (List.replicate x.fin.toNat 0) (by simp) h.apart (fun r hr => ⟨(h.ok.off r hr).1, by have := hle r hr; omega⟩)).1
    unfold pBody
    rw [this]
    have := h.ok.fin
    omega
theorem whole_form {src dst : Nat} {proto id off : Int} {more whole : Bool} {ttl : Int} {body : List UInt8} {ps : List Pk} {fin : Int} {q : Pk} (h : pWhole (Pk.key ⟨src, dst, proto, id, off, more, whole, ttl, body⟩) ps fin = (q, true)) : ∃ tt bd, q = ⟨src, dst, proto, id, 0, false, true, tt, bd⟩ := by
  unfold pWhole at h
  split at h
  · injection h with h1 h2; cases h2
  · injection h with h1 h2; exact ⟨_, _, h1.symm⟩
theorem pBeside_new (p : Pk) : pBeside [] (-1) p = 0 := by unfold pBeside; rw [if_neg (by simp), if_neg (by simp)]
theorem pBeside_cases (ps : List Pk) (fin : Int) (p : Pk) : pBeside ps fin p = 1 ∨ pBeside ps fin p = 2 ∨ pBeside ps fin p = 0 := by
  unfold pBeside
  by_cases h1 : ps.any (pSame · p) = true
  · rw [if_pos h1]; exact .inl rfl
  · rw [if_neg h1]
    by_cases h2 : (ps.any (pClash · p) || (decide (0 ≤ fin) && (decide (fin < p.to) || !p.more))) = true
    · rw [if_pos h2]; exact .inr (.inl rfl)
    · rw [if_neg h2]; exact .inr (.inr rfl)
theorem rmv_first {w : World} {base g : Nat} {clock : Int} {x : RIt} {L : List RIt} {m : Nat} {vr : Value} {F : Nat → Prop} (h : RPtAt w base g clock (x :: L) m vr F) : rmv (x :: L) x.g = L := by
  have ha := h.apart
  rw [List.pairwise_cons] at ha
  unfold rmv
  rw [List.filter_cons, if_neg (by simp), List.filter_eq_self]
  intro y hy
  simp only [Bool.not_eq_true', decide_eq_false_iff_not]
  exact fun e => (ha.1 y hy).1 e.symm
/-- what is the case ahead of the part's append: x is the one to which p belongs -/
def RAddAt (w0 w : World) (base g : Nat) (clock : Int) (l : List Wt) (m : Nat) (F : Nat → Prop) (p : Pk) (v : Value) (s6 : Value) : Prop :=
  ∃ x L1 vr1 F1, s6 = ptrV (some x.g) ∧ x ∈ L1 ∧ (L1.map RIt.w, x.w) = pFind l p.key ∧ RPtAt w base g clock L1 (m + 1) vr1 F1 ∧ (∀ y ∈ L1, y.qs.length ≤ m) ∧ Frame F w0 w ∧ (∀ k, F1 k → F k ∨ w0.heap.size + 2 ≤ k) ∧
    Blk w w0.heap.size 35 (pkCells p v) ∧ Blk w (w0.heap.size + 1) 35 [.int .u32 0, .int .u32 0, .int .i64 0, .int .i64 0, .int .i64 0, .bool false, .bool false, .int .i64 0, .slice none 0 0] ∧ Bs w v p.body ∧ pBeside x.w.parts x.w.fin p = 0
theorem RPtAt.more {w : World} {base g : Nat} {clock : Int} {L : List RIt} {m : Nat} {vr : Value} {F : Nat → Prop} (h : RPtAt w base g clock L m vr F) : RPtAt w base g clock L (m + 1) vr F :=
  ⟨h.tab, h.row, h.it, h.apart, h.ok, fun x hx => Nat.le_succ_of_le (h.few x hx), h.fg, h.fr, h.flt⟩
theorem RPtAt.zone {w : World} {base g : Nat} {clock : Int} {L : List RIt} {m : Nat} {vr : Value} {F : Nat → Prop} (h : RPtAt w base g clock L m vr F) : base ≤ w.heap.size := by have := h.flt _ h.fg; omega
set_option maxHeartbeats 4000000 in
theorem radd_main (base g : Nat) (clock : Int) (l : List Wt) (m : Nat) (F : Nat → Prop) (v : Value) (p : Pk) (w : World) (h : RPt w base g clock l m F) (hb : Bs w v p.body) (hl : p.body.length ≤ 1099511627776) (hw : ¬ (p.off = 0 ∧ p.more = false)) (hwr : pWrong p = false) (hm : m < 90000) (hkey : p.key.Ok) (hsnd : SndL l) (hlo : -9223372036854775808 ≤ p.off) (hvF : ∀ a n c, v = .slice (some a) n c → n ≠ 0 → ¬ F a.block) :
    Calls Try.prog 28 #[.pointer (some ⟨g, 0, none⟩), .agg (pkCells p v).toArray] w (RAddPost base g clock l m F p w) := by
  have HSnd := hid hsnd
  have Hkey := hid hkey
  have Hw0 := hid hw
  have HBs := hid hb
  have H := hid h
  obtain ⟨src, dst, proto, id, off, more, whole, ttl, body⟩ := p
  have Hwr := hid hwr
  obtain ⟨n, hn⟩ : ∃ n, body.length = n := ⟨_, rfl⟩
  obtain ⟨A, cap, rfl⟩ := slice_len hb hn
  have hc : (off == 0) = false ∨ (off == 0) = true ∧ more = true := by
    by_cases z : off = 0
    · exact .inr ⟨by simp [z], by cases more; exact absurd ⟨z, rfl⟩ hw; rfl⟩
    · exact .inl (by simpa using z)
  have hblkp := (Blk.new w 35 #[.int .u32 (src : Int), .int .u32 (dst : Int), .int .i64 proto, .int .i64 id, .int .i64 off, .bool more, .bool whole, .int .i64 ttl, .slice A n cap]).alloc (.cells #[.int .u32 0, .int .u32 0, .int .i64 0, .int .i64 0, .int .i64 0, .bool false, .bool false, .int .i64 0, .slice none 0 0] 35)
  have hblkr := Blk.new (w.alloc (.cells #[.int .u32 (src : Int), .int .u32 (dst : Int), .int .i64 proto, .int .i64 id, .int .i64 off, .bool more, .bool whole, .int .i64 ttl, .slice A n cap] 35)) 35 #[.int .u32 0, .int .u32 0, .int .i64 0, .int .i64 0, .int .i64 0, .bool false, .bool false, .int .i64 0, .slice none 0 0]
  rw [World.size_alloc] at hblkr
  have Hblkp := hid hblkp
  have Hblkr := hid hblkr
  have Hb0 := hid (below_alloc' (below_alloc w (.cells #[.int .u32 (src : Int), .int .u32 (dst : Int), .int .i64 proto, .int .i64 id, .int .i64 off, .bool more, .bool whole, .int .i64 ttl, .slice A n cap] 35)) (.cells #[.int .u32 0, .int .u32 0, .int .i64 0, .int .i64 0, .int .i64 0, .bool false, .bool false, .int .i64 0, .slice none 0 0] 35))
  have q4 : ((w.alloc (.cells #[.int .u32 (src : Int), .int .u32 (dst : Int), .int .i64 proto, .int .i64 id, .int .i64 off, .bool more, .bool whole, .int .i64 ttl, .slice A n cap] 35)).alloc (.cells #[.int .u32 0, .int .u32 0, .int .i64 0, .int .i64 0, .int .i64 0, .bool false, .bool false, .int .i64 0, .slice none 0 0] 35)).cell? ⟨w.heap.size, 4, none⟩ = some (.int .i64 off) := hblkp.cell 4
  have q5 : ((w.alloc (.cells #[.int .u32 (src : Int), .int .u32 (dst : Int), .int .i64 proto, .int .i64 id, .int .i64 off, .bool more, .bool whole, .int .i64 ttl, .slice A n cap] 35)).alloc (.cells #[.int .u32 0, .int .u32 0, .int .i64 0, .int .i64 0, .int .i64 0, .bool false, .bool false, .int .i64 0, .slice none 0 0] 35)).cell? ⟨w.heap.size, 5, none⟩ = some (.bool more) := hblkp.cell 5
  have q8 : ((w.alloc (.cells #[.int .u32 (src : Int), .int .u32 (dst : Int), .int .i64 proto, .int .i64 id, .int .i64 off, .bool more, .bool whole, .int .i64 ttl, .slice A n cap] 35)).alloc (.cells #[.int .u32 0, .int .u32 0, .int .i64 0, .int .i64 0, .int .i64 0, .bool false, .bool false, .int .i64 0, .slice none 0 0] 35)).cell? ⟨w.heap.size, 8, none⟩ = some (.slice A n cap) := hblkp.cell 8
  have Hn := hid hn
  have Hwsz0 := hid (show ((w.alloc (.cells #[.int .u32 (src : Int), .int .u32 (dst : Int), .int .i64 proto, .int .i64 id, .int .i64 off, .bool more, .bool whole, .int .i64 ttl, .slice A n cap] 35)).alloc (.cells #[.int .u32 0, .int .u32 0, .int .i64 0, .int .i64 0, .int .i64 0, .bool false, .bool false, .int .i64 0, .slice none 0 0] 35)).heap.size = w.heap.size + 2 by simp)
  simp only at hlo hl
  rw [hn] at hl
  have HvF := hid hvF
  clear hsnd hkey h hb hblkp hblkr hw hvF
  have hwr2 := hwr
  unfold pWrong at hwr2
  simp only [hn] at hwr2
  have Hwr2 := hid hwr2
  clear hwr hwr2 hn
  dsimp only [pkCells]
  go_enter Try.func28, Try.ntmps28
  go_upto_region 1 with fail
  generalize ((w.alloc (.cells #[.int .u32 (src : Int), .int .u32 (dst : Int), .int .i64 proto, .int .i64 id, .int .i64 off, .bool more, .bool whole, .int .i64 ttl, .slice A n cap] 35)).alloc (.cells #[.int .u32 0, .int .u32 0, .int .i64 0, .int .i64 0, .int .i64 0, .bool false, .bool false, .int .i64 0, .slice none 0 0] 35)) = wz at *
  go_cut [20] from 13 to 20 (fun s20 wx => s20 = .bool false ∧ wx = wz)
  case first =>
    rcases hc with hc | ⟨hc, rfl⟩
    all_goals
      go_wp2_with fail
      go_meet
      case rel => exact ⟨rfl, rfl⟩
  case rest =>
  obtain ⟨rfl, rfl⟩ := hcut
  clear hc
  go_upto_region 3 with fail
  go_cut [64] from 25 to 64 (fun s64 wx => s64 = .bool false ∧ wx = wc)
  case first =>
    have z1 : (n : Int).tmod 8 = (n : Int) % 8 := by rw [Int.tmod_eq_emod_of_nonneg (by omega)]
    have hcs : (more = false ∨ more = true ∧ ((n : Int) == 0) = false ∧ ((n : Int) % 8 != 0) = false) ∧ ¬ off < 0 ∧ (off % 8 != 0) = false ∧ ¬ off > 65515 ∧ ¬ (n : Int) > 65515 - off := by
      have := Hwr2.out
      simp only [Bool.or_eq_false_iff, Bool.and_eq_false_iff, decide_eq_false_iff_not] at this
      simp only [beq_eq_false_iff_ne, bne_eq_false_iff_eq, ne_eq]
      cases more <;> simp at this ⊢ <;> omega
    clear Hwr2
    obtain ⟨hm, h3, h4, h5, h6⟩ := hcs
    have z2 : off.tmod 8 = off % 8 := by rw [Int.tmod_eq_emod_of_nonneg (by omega)]
    have z3 : IntKind.i64.wrap (65515 - off) = 65515 - off := IntWalk.i64_in _ (by omega)
    rcases hm with rfl | ⟨rfl, h1, h2⟩
    all_goals
      go_wp2_with fail
      go_meet
      case rel => exact ⟨rfl, rfl⟩
  case rest =>
  obtain ⟨rfl, rfl⟩ := hcut
  obtain ⟨L, vr, rfl, hAt⟩ := H.out
  have HAt := hid hAt
  have HBw := hid (HBs.out.below Hb0.out)
  have KA := hid (hAt.keep Hb0.out)
  have HFi := rfind_o base g clock L m vr F (.slice A n cap) (⟨src, dst, proto, id, off, more, whole, ttl, body⟩ : Pk) wc KA.out HBw.out
  dsimp only [pkCells] at HFi
  have HFi := hid HFi
  have Hwsz := hid (show wc.heap.size = w.heap.size + 2 from Hwsz0.out)
  clear hAt Hwr2
  go_upto_region 6 with (first
    | ((with_reducible show wpList _ _ _ (Oper.mk (some 67) _ _ _ _ _ :: _) _ _); refine wpList_loadBlk rfl _ _ rfl _ rfl _ _ _ Hblkp.out Try.underlying35 rpkinfo ?_)
    | (go_at_call 46; refine HFi.out.mono ?_; rintro e w2 ⟨o, rfl, hb2, ho⟩; have Hb2 := hid hb2; have Ho := hid ho; clear hb2 ho)
    | fail)
  have hbp := Hblkp.out.keep Hb2.out
  have hbr := Hblkr.out.keep Hb2.out
  have Hbp2 := hid hbp
  have Hbr2 := hid hbr
  have K2 := hid (KA.out.keep Hb2.out)
  have Hb02 := hid (show Below w.heap.size w w2 from Hb0.out.trans (Hb2.out.mono Hb0.out.size))
  have HB2 := hid (HBw.out.below Hb2.out)
  have Hs2 := hid (show w.heap.size + 2 ≤ w2.heap.size by rw [← Hwsz.out]; exact Hb2.out.size)
  have HFb := hid (fun k (hk : F k) => (HAt.out.flt k hk).2)
  clear hbp hbr HFi
  cases o with
  | some gx =>
    obtain ⟨x, hx, rfl, hxk⟩ : ∃ x ∈ L, x.g = gx ∧ x.w.k = Pk.key (⟨src, dst, proto, id, off, more, whole, ttl, body⟩ : Pk) := by
      rcases Ho.out with ⟨h, _⟩ | ⟨x, hx, h, hk⟩
      · cases h
      · injection h with h; exact ⟨x, hx, h.symm, hk⟩
    have Hpf := hid (show pFind (L.map RIt.w) (Pk.key (⟨src, dst, proto, id, off, more, whole, ttl, body⟩ : Pk)) = (L.map RIt.w, x.w) by rw [← hxk]; exact pFind_some HAt.out hx)
    have hxi := K2.out.it x hx
    have hxs := HSnd.out x.w (List.mem_map_of_mem hx)
    have hfew := HAt.out.few x hx
    have c10 : w2.cell? ⟨x.g, 10, none⟩ = some x.pv := hxi.blk.cell 10
    have HK := hid (show ∀ wr, Below w2.heap.size w2 wr → wr.cell? ⟨x.g, 10, none⟩ = some x.pv ∧ wr.cell? ⟨w.heap.size, 0, none⟩ = some (.int .u32 (src : Int)) ∧ wr.cell? ⟨w.heap.size, 1, none⟩ = some (.int .u32 (dst : Int)) ∧ wr.cell? ⟨w.heap.size, 2, none⟩ = some (.int .i64 proto) ∧ wr.cell? ⟨w.heap.size, 3, none⟩ = some (.int .i64 id) ∧ wr.cell? ⟨w.heap.size, 4, none⟩ = some (.int .i64 off) ∧ wr.cell? ⟨w.heap.size, 5, none⟩ = some (.bool more) ∧ wr.cell? ⟨w.heap.size, 6, none⟩ = some (.bool whole) ∧ wr.cell? ⟨w.heap.size, 7, none⟩ = some (.int .i64 ttl) ∧ wr.cell? ⟨w.heap.size, 8, none⟩ = some (.slice A n cap) from fun wr hb =>
      ⟨(hxi.keep hb).blk.cell 10, (Hbp2.out.keep hb).cell 0, (Hbp2.out.keep hb).cell 1, (Hbp2.out.keep hb).cell 2, (Hbp2.out.keep hb).cell 3, (Hbp2.out.keep hb).cell 4, (Hbp2.out.keep hb).cell 5, (Hbp2.out.keep hb).cell 6, (Hbp2.out.keep hb).cell 7, (Hbp2.out.keep hb).cell 8⟩)
    obtain ⟨bs, hbs⟩ : ∃ z, pBeside x.w.parts x.w.fin (⟨src, dst, proto, id, off, more, whole, ttl, body⟩ : Pk) = z := ⟨_, rfl⟩
    have Hbs := hid hbs
    have Hp := hid (show pAdd (L.map RIt.w) (⟨src, dst, proto, id, off, more, whole, ttl, body⟩ : Pk) = if bs = 1 then (L.map RIt.w, pkZero, 19) else if bs = 2 then (pLose (L.map RIt.w) (Pk.key (⟨src, dst, proto, id, off, more, whole, ttl, body⟩ : Pk)), pkZero, 15) else pAdd (L.map RIt.w) (⟨src, dst, proto, id, off, more, whole, ttl, body⟩ : Pk) by
      by_cases b1 : bs = 1
      · rw [if_pos b1]; unfold pAdd; rw [if_neg Hw0.out, Hwr.out, if_neg (by simp), Hpf.out]; simp only [hbs, if_pos b1]
      · rw [if_neg b1]
        by_cases b2 : bs = 2
        · rw [if_pos b2]; unfold pAdd; rw [if_neg Hw0.out, Hwr.out, if_neg (by simp), Hpf.out]; simp only [hbs, if_neg b1, if_pos b2]
        · rw [if_neg b2])
    have HCl := hid (show ∀ wx, Below w2.heap.size w2 wx → Calls Try.prog 47 #[x.pv, .agg #[.int .u32 (src : Int), .int .u32 (dst : Int), .int .i64 proto, .int .i64 id, .int .i64 off, .bool more, .bool whole, .int .i64 ttl, .slice A n cap]] wx fun e w' => e = .returned (.tuple #[.bool (decide (bs = 2)), .bool (decide (bs = 1))]) ∧ Below w2.heap.size w2 w' from fun wx hb => by
      have hy := hxi.keep hb
      have hq : ∀ q ∈ x.qs, 0 ≤ q.1.off ∧ q.1.to ≤ 65515 := fun q hq => by
        have : q.1 ∈ x.w.parts.map twn := by rw [← hy.fst]; exact List.mem_map_of_mem hq
        obtain ⟨r, hr, e⟩ := List.mem_map.1 this
        rw [← e]
        exact hxs.1.ok.off r hr
      have := rclash_at x.pv x.qs (.slice A n cap) (⟨src, dst, proto, id, off, more, whole, ttl, body⟩ : Pk) wx hy.row.rowN (fun q hq => (hy.bod q hq).bs) hq Hwr.out (Nat.le_trans hfew (by omega)) (HB2.out.below hb)
      rw [hy.fst, clash_law hxs.1, hbs] at this
      exact this.mono fun e w' h => ⟨h.1, hb.trans (h.2.mono hb.size)⟩)
    have Hx := hid hx
    have Hxk := hid hxk
    clear hx hxi hxs hfew hbs hxk
    rw [show ptrV (some x.g) = .pointer (some ⟨x.g, 0, none⟩) from rfl]
    go_upto_region 7 with fail
    go_region_held3 (fun wr => Below w2.heap.size w2 wr ∧ wr.cell? ⟨x.g, 10, none⟩ = some x.pv ∧ wr.cell? ⟨w.heap.size, 0, none⟩ = some (.int .u32 (src : Int)) ∧ wr.cell? ⟨w.heap.size, 1, none⟩ = some (.int .u32 (dst : Int)) ∧ wr.cell? ⟨w.heap.size, 2, none⟩ = some (.int .i64 proto) ∧ wr.cell? ⟨w.heap.size, 3, none⟩ = some (.int .i64 id) ∧ wr.cell? ⟨w.heap.size, 4, none⟩ = some (.int .i64 off) ∧ wr.cell? ⟨w.heap.size, 5, none⟩ = some (.bool more) ∧ wr.cell? ⟨w.heap.size, 6, none⟩ = some (.bool whole) ∧ wr.cell? ⟨w.heap.size, 7, none⟩ = some (.int .i64 ttl) ∧ wr.cell? ⟨w.heap.size, 8, none⟩ = some (.slice A n cap)) ((first | exact ⟨below_drew w2, HK.out _ (below_drew w2)⟩ | exact ⟨Hb3.out, HK.out _ Hb3.out⟩)) (first
      | (go_at_call 47; refine (HCl.out _ (by first | exact below_drew w2 | exact Below.refl _ _)).mono ?_; rintro e w3 ⟨rfl, hb3⟩; have Hb3 := hid hb3; clear hb3))
    have K3 := hid (K2.out.keep Hb3.out)
    have hbr3 := Hbr2.out.keep Hb3.out
    have Hbr3 := hid hbr3
    have Hb03 := hid (show Below w.heap.size w w3 from Hb02.out.trans (Hb3.out.mono (by have := Hs2.out; omega)))
    clear hbr3 c10
    by_cases b1 : bs = 1
    · subst b1
      have Hp1 := hid (show pAdd (L.map RIt.w) (⟨src, dst, proto, id, off, more, whole, ttl, body⟩ : Pk) = (L.map RIt.w, pkZero, 19) by rw [Hp.out, if_pos rfl])
      rw [show decide ((1 : Int) = 2) = false from rfl, show decide ((1 : Int) = 1) = true from rfl]
      go_wp2_with (first | ((with_reducible show wpList _ _ _ (Oper.mk none _ _ _ _ _ :: _) _ _); refine wpList_storeBlk rfl _ _ _ rfl _ _ rfl rfl _ _ Hbr3.out rpkinfo rfl rfl ?_; intro w9 hblk9 hg9 hsz9; have Hblk9 := hid hblk9; have Hg9 := hid hg9; clear hblk9 hg9 hsz9) | fail)
      refine ret_cell2 rfl (w.heap.size + 1) 35 _ _ rfl Hblk9.out Try.underlying35 rpkinfo _ rfl rfl ?_
      unfold RAddPost
      rw [Hp1.out]
      exact ⟨.slice none 0 0, rfl, OwnBs.nil _ _ _, F, ⟨L, vr, rfl, (K3.out.same (frame_one Hg9.out) (fun k hk e => by have := HFb.out k hk; omega)).more⟩, (Below.frameF Hb03.out F).trans (frame_one Hg9.out) (fun i hi q => by omega), fun k hk => .inl hk⟩
    by_cases b2 : bs = 2
    · subst b2
      have Hp1 := hid (show pAdd (L.map RIt.w) (⟨src, dst, proto, id, off, more, whole, ttl, body⟩ : Pk) = (pLose (L.map RIt.w) (Pk.key (⟨src, dst, proto, id, off, more, whole, ttl, body⟩ : Pk)), pkZero, 15) by rw [Hp.out, if_neg b1, if_pos rfl])
      clear b1
      have HDr := hid (rdrop_at base g clock L m vr F x.g ⟨x, Hx.out, rfl⟩ w3 K3.out)
      have Hbr30 := hid Hbr3.out
      clear Hbr3
      rw [show decide ((2 : Int) = 2) = true from rfl, show decide ((2 : Int) = 1) = false from rfl]
      go_wp2_with (first
        | (go_at_call 45; refine HDr.out.mono ?_; rintro e w6 ⟨⟨u, rfl⟩, vr', F', hk6, hfr6, hF6⟩; have Hbr3 := hid (hfr6.blk Hbr30.out (fun e => by have := (HAt.out.flt _ HAt.out.fg).2; omega)); have Hk6 := hid hk6; have Hfr6 := hid hfr6; have HF6 := hid hF6; clear hk6 hfr6 hF6)
        | ((with_reducible show wpList _ _ _ (Oper.mk none _ _ _ _ _ :: _) _ _); refine wpList_storeBlk rfl _ _ _ rfl _ _ rfl rfl _ _ Hbr3.out rpkinfo rfl rfl ?_; intro w9 hblk9 hg9 hsz9; have Hblk9 := hid hblk9; have Hg9 := hid hg9; clear hblk9 hg9 hsz9)
        | fail)
      refine ret_cell2 rfl (w.heap.size + 1) 35 _ _ rfl Hblk9.out Try.underlying35 rpkinfo _ rfl rfl ?_
      unfold RAddPost
      rw [Hp1.out]
      have hs3 := Hb3.out.size
      have hs2 := Hs2.out
      refine ⟨.slice none 0 0, rfl, OwnBs.nil _ _ _, F', ⟨_, vr', ?_, (Hk6.out.same (frame_one Hg9.out) (fun k hk e => ?_)).more⟩, ?_, fun k hk => ?_⟩
      · rw [HAt.out.rmv_w Hx.out, Hxk.out]
      · rcases HF6.out k hk with q | q
        · have := HFb.out k q; omega
        · omega
      · exact ((Below.frameF Hb03.out F).trans Hfr6.out (fun i hi q => by rw [q]; exact HAt.out.fg)).trans (frame_one Hg9.out) (fun i hi q => by omega)
      · rcases HF6.out k hk with q | q
        · exact .inl q
        · exact .inr (by omega)
    obtain rfl : bs = 0 := by rcases pBeside_cases x.w.parts x.w.fin (⟨src, dst, proto, id, off, more, whole, ttl, body⟩ : Pk) with q | q | q <;> rw [Hbs.out] at q <;> first | exact absurd q b1 | exact absurd q b2 | exact q
    clear b1 b2 Hp
    have Hcut := hid (show RAddAt w w3 base g clock (L.map RIt.w) m F (⟨src, dst, proto, id, off, more, whole, ttl, body⟩ : Pk) (.slice A n cap) (ptrV (some x.g)) from
      ⟨x, L, vr, F, rfl, Hx.out, Hpf.out.symm, K3.out.more, HAt.out.few, Below.frameF Hb03.out F, fun k hk => .inl hk, Hbp2.out.keep Hb3.out, Hbr3.out, HB2.out.below Hb3.out, Hbs.out⟩)
    rw [show decide ((0 : Int) = 2) = false from rfl, show decide ((0 : Int) = 1) = false from rfl]
    clear HCl Hbr3 Hb03 K3 Hbs HK Hb3 Hx Hxk Hpf
    go_upto_region 18 with fail
    rw [show Value.pointer (some ⟨x.g, 0, none⟩) = ptrV (some x.g) from rfl]
    generalize ptrV (some x.g) = s6 at *
    generalize w3 = wt at *
    clear K2 Hb02 HB2 Hs2 Hbp2 Hbr2 KA HBw Hb0 Hb2 Ho Hwsz Hblkp Hblkr
    obtain ⟨x, L1, vr1, F1, rfl, hx, hpf, KT, hfew, hfr, hF1, hpc, hrc, hbs, hbe⟩ := Hcut.out
    clear Hcut
    rw [show ptrV (some x.g) = .pointer (some ⟨x.g, 0, none⟩) from rfl]
    have hfs := sndL_find HSnd.out (Pk.key (⟨src, dst, proto, id, off, more, whole, ttl, body⟩ : Pk)) Hkey.out
    rw [← hpf] at hfs
    have Hok2 := hid (snd_more hfs.2.1 Hwr.out Hw0.out (by rw [hbe]; decide) (by rw [hbe]; decide))
    have Hp := hid (show pAdd (L.map RIt.w) (⟨src, dst, proto, id, off, more, whole, ttl, body⟩ : Pk) = if (pWhole (pMore x.w (⟨src, dst, proto, id, off, more, whole, ttl, body⟩ : Pk)).k (pMore x.w (⟨src, dst, proto, id, off, more, whole, ttl, body⟩ : Pk)).parts (pMore x.w (⟨src, dst, proto, id, off, more, whole, ttl, body⟩ : Pk)).fin).2 then (pLose (pSet (L1.map RIt.w) (pMore x.w (⟨src, dst, proto, id, off, more, whole, ttl, body⟩ : Pk))) (Pk.key (⟨src, dst, proto, id, off, more, whole, ttl, body⟩ : Pk)), (pWhole (pMore x.w (⟨src, dst, proto, id, off, more, whole, ttl, body⟩ : Pk)).k (pMore x.w (⟨src, dst, proto, id, off, more, whole, ttl, body⟩ : Pk)).parts (pMore x.w (⟨src, dst, proto, id, off, more, whole, ttl, body⟩ : Pk)).fin).1, 0) else (pSet (L1.map RIt.w) (pMore x.w (⟨src, dst, proto, id, off, more, whole, ttl, body⟩ : Pk)), pkZero, 19) by
      unfold pAdd
      rw [if_neg Hw0.out, Hwr.out, if_neg (by simp), ← hpf]
      simp only [hbe]
      rw [if_neg (by decide), if_neg (by decide)])
    have Hxk := hid (show x.w.k = Pk.key (⟨src, dst, proto, id, off, more, whole, ttl, body⟩ : Pk) from pFind_key hpf)
    have hxi := KT.it x hx
    obtain ⟨n2, hn2⟩ : ∃ z, x.qs.length = z := ⟨_, rfl⟩
    have Hn2 := hid hn2
    have hnm : n2 ≤ m := by rw [← hn2]; exact hfew x hx
    have hrow := hxi.row
    rw [hn2] at hrow
    obtain ⟨wh, hwh⟩ : ∃ b, (decide (off = 0) && !more) = b := ⟨_, rfl⟩
    have HT := hid (show ∀ wx, Below wt.heap.size wt wx → Calls Try.prog 32 #[.agg #[.int .u32 (src : Int), .int .u32 (dst : Int), .int .i64 proto, .int .i64 id, .int .i64 off, .bool more, .bool whole, .int .i64 ttl, .slice A n cap], .int .i64 off, .slice A n cap, .bool more] wx fun e w' => ∃ A1 c1, e = .returned (.agg #[.int .u32 (src : Int), .int .u32 (dst : Int), .int .i64 proto, .int .i64 id, .int .i64 off, .bool more, .bool wh, .int .i64 ttl, .slice A1 n c1]) ∧ OwnBs w' wt.heap.size 5 (.slice A1 n c1) body ∧ Below wt.heap.size wt w' from fun wx hb => by
      have := rtwin_any (.slice A n cap) (⟨src, dst, proto, id, off, more, whole, ttl, body⟩ : Pk) off (.slice A n cap) body more wx (hbs.below hb) (hbs.below hb) (by rw [Hn.out]; exact hl)
      refine this.mono ?_
      rintro e w' ⟨v', rfl, ho, hb'⟩
      obtain ⟨A1, c1, rfl⟩ := slice_len ho.bs Hn.out
      refine ⟨A1, c1, ?_, ho.mono hb.size, hb.trans (hb'.mono hb.size)⟩
      rw [← hwh]
      rfl)
    have c10 : wt.cell? ⟨x.g, 10, none⟩ = some x.pv := hxi.blk.cell 10
    have Hx := hid hx
    have Hxi := hid hxi
    have Hrow := hid hrow
    have Hpc := hid hpc
    have Hrc := hid hrc
    have Hfew := hid hfew
    have Hfr := hid hfr
    have HF1 := hid hF1
    have Hwh := hid hwh
    have KT := hid KT
    have HGP := hid (show w.heap.size ≠ x.g from fun e => by
      rcases hF1 _ hxi.fg with q | q
      · have := HFb.out _ q; omega
      · omega)
    have HF1r := hid (show ∀ k, F1 k → k ≠ w.heap.size ∧ k ≠ w.heap.size + 1 from fun k hk => by
      rcases hF1 k hk with q | q
      · have := HFb.out k q; omega
      · omega)
    clear hx hpf hfew hfr hF1 hpc hrc hbs hbe hfs hxi hn2 hrow hwh
    go_cut [] from 120 to 136 (fun wx => ∃ A1 c1 pv2, Blk wx x.g 101 (rwCells x.kp x.kv (clock - x.w.age) pv2) ∧ RowAtS wx base 35 9 pv2 (n2 + 1) (pkRow x.qs ++ [.int .u32 (src : Int), .int .u32 (dst : Int), .int .i64 proto, .int .i64 id, .int .i64 off, .bool more, .bool wh, .int .i64 ttl, .slice A1 n c1]) ∧ OwnBs wx wt.heap.size 5 (.slice A1 n c1) body ∧ Frame (fun k => k = x.g ∨ x.pv.ownBlock = some k) wt wx ∧ ∀ k, pv2.ownBlock = some k → x.pv.ownBlock = some k ∨ wt.heap.size ≤ k)
    case first =>
      refine wp_region_held_drew (S := fun wy => Blk wy w.heap.size 35 [.int .u32 (src : Int), .int .u32 (dst : Int), .int .i64 proto, .int .i64 id, .int .i64 off, .bool more, .bool whole, .int .i64 ttl, .slice A n cap]) (by kernel_rfl) (by first | exact Hpc.out.drew | exact P4.out | exact P4.out.alloc _ | exact P6.out | exact P6.out.far HGP.out _) (fun _ => ?_)
      (refine wpAnyH_take (i := 0) (v := .pointer (some ⟨x.g, 0, none⟩)) rfl (by kernel_rfl) (by kernel_rfl) (by kernel_rfl) (fun _ _ _ h => h) (Or.inl ⟨by rfl, by intro wq hSw; skip; go_simp⟩) (by first | exact Hpc.out.drew | exact P4.out | exact P4.out.alloc _ | exact P6.out | exact P6.out.far HGP.out _) ?_; (try simp only [Act.put, List.setIfInBounds_toArray, List.set_cons_zero, List.set_cons_succ]))
      (refine wpAnyH_take (i := 1) (v := .pointer (some ⟨x.g, 0, none⟩)) rfl (by kernel_rfl) (by kernel_rfl) (by kernel_rfl) (fun _ _ _ h => h) (Or.inl ⟨by rfl, by intro wq hSw; skip; go_simp⟩) (by first | exact Hpc.out.drew | exact P4.out | exact P4.out.alloc _ | exact P6.out | exact P6.out.far HGP.out _) ?_; (try simp only [Act.put, List.setIfInBounds_toArray, List.set_cons_zero, List.set_cons_succ]))
      (refine wpAnyH_take (i := 2) (v := .pointer (some ⟨x.g, 0, none⟩)) rfl (by kernel_rfl) (by kernel_rfl) (by kernel_rfl) (fun _ _ _ h => h) (Or.inl ⟨by rfl, by intro wq hSw; skip; go_simp⟩) (by first | exact Hpc.out.drew | exact P4.out | exact P4.out.alloc _ | exact P6.out | exact P6.out.far HGP.out _) ?_; (try simp only [Act.put, List.setIfInBounds_toArray, List.set_cons_zero, List.set_cons_succ]))
      (refine wpAnyH_take (i := 3) (v := .pointer (some ⟨x.g, 10, none⟩)) rfl (by kernel_rfl) (by kernel_rfl) (by kernel_rfl) (fun _ _ _ h => h) (Or.inl ⟨by rfl, by intro wq hSw; skip; go_simp⟩) (by first | exact Hpc.out.drew | exact P4.out | exact P4.out.alloc _ | exact P6.out | exact P6.out.far HGP.out _) ?_; (try simp only [Act.put, List.setIfInBounds_toArray, List.set_cons_zero, List.set_cons_succ]))
      (refine wpAnyH_take (i := 5) (v := .agg #[.int .u32 (src : Int), .int .u32 (dst : Int), .int .i64 proto, .int .i64 id, .int .i64 off, .bool more, .bool whole, .int .i64 ttl, .slice A n cap]) rfl (by kernel_rfl) (by kernel_rfl) (by kernel_rfl) (fun _ _ _ h => h) (Or.inl ⟨by rfl, by intro wq hSw; have c0 := hSw.cell 0; have c1 := hSw.cell 1; have c2 := hSw.cell 2; have c3 := hSw.cell 3; have c4 := hSw.cell 4; have c5 := hSw.cell 5; have c6 := hSw.cell 6; have c7 := hSw.cell 7; have c8 := hSw.cell 8; go_simp⟩) (by first | exact Hpc.out.drew | exact P4.out | exact P4.out.alloc _ | exact P6.out | exact P6.out.far HGP.out _) ?_; (try simp only [Act.put, List.setIfInBounds_toArray, List.set_cons_zero, List.set_cons_succ]))
      (refine wpAnyH_take (i := 6) (v := .pointer (some ⟨w.heap.size, 4, none⟩)) rfl (by kernel_rfl) (by kernel_rfl) (by kernel_rfl) (fun _ _ _ h => h) (Or.inl ⟨by rfl, by intro wq hSw; skip; go_simp⟩) (by first | exact Hpc.out.drew | exact P4.out | exact P4.out.alloc _ | exact P6.out | exact P6.out.far HGP.out _) ?_; (try simp only [Act.put, List.setIfInBounds_toArray, List.set_cons_zero, List.set_cons_succ]))
      (refine wpAnyH_take (i := 7) (v := .int .i64 off) rfl (by kernel_rfl) (by kernel_rfl) (by kernel_rfl) (fun _ _ _ h => h) (Or.inl ⟨by rfl, by intro wq hSw; have c4 := hSw.cell 4; go_simp⟩) (by first | exact Hpc.out.drew | exact P4.out | exact P4.out.alloc _ | exact P6.out | exact P6.out.far HGP.out _) ?_; (try simp only [Act.put, List.setIfInBounds_toArray, List.set_cons_zero, List.set_cons_succ]))
      (refine wpAnyH_take (i := 8) (v := .pointer (some ⟨w.heap.size, 8, none⟩)) rfl (by kernel_rfl) (by kernel_rfl) (by kernel_rfl) (fun _ _ _ h => h) (Or.inl ⟨by rfl, by intro wq hSw; skip; go_simp⟩) (by first | exact Hpc.out.drew | exact P4.out | exact P4.out.alloc _ | exact P6.out | exact P6.out.far HGP.out _) ?_; (try simp only [Act.put, List.setIfInBounds_toArray, List.set_cons_zero, List.set_cons_succ]))
      (refine wpAnyH_take (i := 9) (v := .slice A n cap) rfl (by kernel_rfl) (by kernel_rfl) (by kernel_rfl) (fun _ _ _ h => h) (Or.inl ⟨by rfl, by intro wq hSw; have c4 := hSw.cell 8; go_simp⟩) (by first | exact Hpc.out.drew | exact P4.out | exact P4.out.alloc _ | exact P6.out | exact P6.out.far HGP.out _) ?_; (try simp only [Act.put, List.setIfInBounds_toArray, List.set_cons_zero, List.set_cons_succ]))
      (refine wpAnyH_take (i := 10) (v := .pointer (some ⟨w.heap.size, 5, none⟩)) rfl (by kernel_rfl) (by kernel_rfl) (by kernel_rfl) (fun _ _ _ h => h) (Or.inl ⟨by rfl, by intro wq hSw; skip; go_simp⟩) (by first | exact Hpc.out.drew | exact P4.out | exact P4.out.alloc _ | exact P6.out | exact P6.out.far HGP.out _) ?_; (try simp only [Act.put, List.setIfInBounds_toArray, List.set_cons_zero, List.set_cons_succ]))
      (refine wpAnyH_take (i := 11) (v := .bool more) rfl (by kernel_rfl) (by kernel_rfl) (by kernel_rfl) (fun _ _ _ h => h) (Or.inl ⟨by rfl, by intro wq hSw; have c4 := hSw.cell 5; go_simp⟩) (by first | exact Hpc.out.drew | exact P4.out | exact P4.out.alloc _ | exact P6.out | exact P6.out.far HGP.out _) ?_; (try simp only [Act.put, List.setIfInBounds_toArray, List.set_cons_zero, List.set_cons_succ]))
      (refine wpAnyH_ready (rs := [4, 12]) (by kernel_rfl) (by simp) ?_; refine (AllReadyH.cons rfl (fun K hK => ?_) (AllReadyH.cons rfl (fun K hK => ?_) AllReadyH.nil)))
      · go_simp
        (refine hK.out _ _ (by first | exact Hpc.out.drew | exact P4.out | exact P4.out.alloc _ | exact P6.out | exact P6.out.far HGP.out _) (fun _ => ?_); clear hK K; (try simp only [Act.put, List.setIfInBounds_toArray, List.set_cons_zero, List.set_cons_succ]))
        (refine wpAnyH_ready (rs := [12]) (by kernel_rfl) (by simp) ?_; refine (AllReadyH.cons rfl (fun K hK => ?_) AllReadyH.nil))
        (go_simp; go_at_call 32; refine (HT.out _ (below_drew wt)).mono ?_; rintro e w4 ⟨A1, c1, rfl, hown, hb4⟩; have P4 := hid (Hpc.out.keep hb4); have Hb4 := hid hb4; have Hown4 := hid hown; have c10b : w4.cell? ⟨x.g, 10, none⟩ = some x.pv := (Hxi.out.keep hb4).blk.cell 10; have c10c := cell_below (below_alloc w4 (.cells #[.int .u32 (src : Int), .int .u32 (dst : Int), .int .i64 proto, .int .i64 id, .int .i64 off, .bool more, .bool wh, .int .i64 ttl, .slice A1 n c1] 35)) c10b; clear hown hb4)
        (refine hK.out _ _ (by first | exact Hpc.out.drew | exact P4.out | exact P4.out.alloc _ | exact P6.out | exact P6.out.far HGP.out _) (fun _ => ?_); clear hK K; (try simp only [Act.put, List.setIfInBounds_toArray, List.set_cons_zero, List.set_cons_succ]))
        (refine wpAnyH_ready (rs := [13]) (by kernel_rfl) (by simp) ?_; refine (AllReadyH.cons rfl (fun K hK => ?_) AllReadyH.nil))
        go_simp
        (refine hK.out _ _ (by first | exact Hpc.out.drew | exact P4.out | exact P4.out.alloc _ | exact P6.out | exact P6.out.far HGP.out _) (fun _ => ?_); clear hK K; (try simp only [Act.put, List.setIfInBounds_toArray, List.set_cons_zero, List.set_cons_succ]))
        (refine wpAnyH_ready (rs := [14]) (by kernel_rfl) (by simp) ?_; refine (AllReadyH.cons rfl (fun K hK => ?_) AllReadyH.nil))
        (refine step_app_atS _ (by rfl) _ _ 32 (by rfl) base 35 rpkz 9 72 rpkk x.pv n2 (pkRow x.qs) (by rfl) (Hrow.out.keep (below_alloc' Hb4.out _)) (.slice (some ⟨w4.heap.size, 0, none⟩) 1 1) 1 [.int .u32 (src : Int), .int .u32 (dst : Int), .int .i64 proto, .int .i64 id, .int .i64 off, .bool more, .bool wh, .int .i64 ttl, .slice A1 n c1] (by rfl) (rowS_lit 9 #[.int .u32 (src : Int), .int .u32 (dst : Int), .int .i64 proto, .int .i64 id, .int .i64 off, .bool more, .bool wh, .int .i64 ttl, .slice A1 n c1] 1 _ rfl rfl (by simp [maxLen])) (by simp [Value.oneCell']) (by decide) (by omega) (by simp only [maxLen]; omega) (Nat.le_trans KT.out.zone (below_alloc' Hb4.out _).size) ?_; intro v6 w6 hr6 hg6 hv6; have hwy : Below wt.heap.size wt (w4.alloc (.cells #[.int .u32 (src : Int), .int .u32 (dst : Int), .int .i64 proto, .int .i64 id, .int .i64 off, .bool more, .bool wh, .int .i64 ttl, .slice A1 n c1] 35)) := below_alloc' Hb4.out _; obtain ⟨A6, cap6, rfl⟩ : ∃ A c, v6 = .slice A (n2 + 1) c := (by obtain ⟨_, A, c, h, _⟩ := hr6.rowN; exact ⟨A, c, h⟩); have hb6 := (Hxi.out.blk.keep hwy).grown hg6 (fun e => (Hxi.out.row.keep hwy).ne (Hxi.out.blk.keep hwy) (by decide) e.symm); have P6 := hid ((Hpc.out.keep hwy).grown hg6 (fun e => (HF1r.out _ (Hxi.out.fp _ e.symm)).1 rfl)); have Hr6 := hid hr6; have Hf6 := hid ((Below.frameF (below_alloc w4 (.cells #[.int .u32 (src : Int), .int .u32 (dst : Int), .int .i64 proto, .int .i64 id, .int .i64 off, .bool more, .bool wh, .int .i64 ttl, .slice A1 n c1] 35)) (fun k => k = x.g ∨ x.pv.ownBlock = some k)).trans (frame_grown hg6 (F := fun k => k = x.g ∨ x.pv.ownBlock = some k) (fun k hk => .inr hk)) (fun _ _ h => h)); have Hv6 := hid (show ∀ k, (Value.slice A6 (n2 + 1) cap6).ownBlock = some k → x.pv.ownBlock = some k ∨ wt.heap.size ≤ k from fun k hk => (by rcases hv6 with q | q; exact .inl (by rw [← q]; exact hk); rw [q] at hk; injection hk with hk; have := hwy.size; exact .inr (by omega))); have e10 : w6.cell? ⟨x.g, 10, none⟩ = some x.pv := hb6.cell 10; have z10 := hb6.frozen 10; have Hb6 := hid hb6; clear hwy hr6 hg6 hv6 hb6)
        (refine hK.out _ _ (by first | exact Hpc.out.drew | exact P4.out | exact P4.out.alloc _ | exact P6.out | exact P6.out.far HGP.out _) (fun _ => ?_); clear hK K; (try simp only [Act.put, List.setIfInBounds_toArray, List.set_cons_zero, List.set_cons_succ]))
        (refine wpAnyH_ready (rs := [15]) (by kernel_rfl) (by simp) ?_; refine (AllReadyH.cons rfl (fun K hK => ?_) AllReadyH.nil))
        go_simp
        (refine hK.out _ _ (by first | exact Hpc.out.drew | exact P4.out | exact P4.out.alloc _ | exact P6.out | exact P6.out.far HGP.out _) (fun _ => ?_); clear hK K; (try simp only [Act.put, List.setIfInBounds_toArray, List.set_cons_zero, List.set_cons_succ]))
        (refine wpAnyH_ready (rs := [16]) (by kernel_rfl) (by simp) ?_; refine (AllReadyH.cons rfl (fun K hK => ?_) AllReadyH.nil))
        go_simp
        (refine hK.out _ _ (by first | exact Hpc.out.drew | exact P4.out | exact P4.out.alloc _ | exact P6.out | exact P6.out.far HGP.out _) (fun _ => ?_); clear hK K; (try simp only [Act.put, List.setIfInBounds_toArray, List.set_cons_zero, List.set_cons_succ]))
        (refine wpAnyH_ready (rs := [17]) (by kernel_rfl) (by simp) ?_; refine (AllReadyH.cons rfl (fun K hK => ?_) AllReadyH.nil))
        go_simp
        (refine hK.out _ _ (by first | exact Hpc.out.drew | exact P4.out | exact P4.out.alloc _ | exact P6.out | exact P6.out.far HGP.out _) (fun _ => ?_); clear hK K; (try simp only [Act.put, List.setIfInBounds_toArray, List.set_cons_zero, List.set_cons_succ]))
        refine wpAnyH_done (by kernel_rfl) ?_ _
        go_wp2_with fail
        go_meet
        case rel =>
          have hgs := grown_set w6 x.g 10 (.slice A6 (n2 + 1) cap6)
          have hf7 := Hf6.out.trans (frame_grown hgs (F := fun k => k = x.g ∨ x.pv.ownBlock = some k) (fun k hk => .inl (by injection hk with hk; exact hk.symm))) (fun _ _ h => h)
          refine ⟨A1, c1, .slice A6 (n2 + 1) cap6, Hb6.out.set_ 10 _, Hr6.out.same (fun k hk => hgs.block k (Hr6.out.lt hk).2 (fun e => ?_)), hf7.own Hown4.out (fun k hk q => ?_), (Below.frameF Hb4.out (fun k => k = x.g ∨ x.pv.ownBlock = some k)).trans hf7 (fun _ _ h => h), Hv6.out⟩
          · injection e with e
            subst e
            exact Hr6.out.ne Hb6.out (by decide) hk
          · have h1 := (own_at Hown4.out hk).1
            rcases q with q | q
            · have := Hxi.out.blk.lt; omega
            · have := (Hxi.out.row.lt q).2; omega
      · (go_simp; go_at_call 32; refine (HT.out _ (below_drew wt)).mono ?_; rintro e w4 ⟨A1, c1, rfl, hown, hb4⟩; have P4 := hid (Hpc.out.keep hb4); have Hb4 := hid hb4; have Hown4 := hid hown; have c10b : w4.cell? ⟨x.g, 10, none⟩ = some x.pv := (Hxi.out.keep hb4).blk.cell 10; have c10c := cell_below (below_alloc w4 (.cells #[.int .u32 (src : Int), .int .u32 (dst : Int), .int .i64 proto, .int .i64 id, .int .i64 off, .bool more, .bool wh, .int .i64 ttl, .slice A1 n c1] 35)) c10b; clear hown hb4)
        (refine hK.out _ _ (by first | exact Hpc.out.drew | exact P4.out | exact P4.out.alloc _ | exact P6.out | exact P6.out.far HGP.out _) (fun _ => ?_); clear hK K; (try simp only [Act.put, List.setIfInBounds_toArray, List.set_cons_zero, List.set_cons_succ]))
        (refine wpAnyH_ready (rs := [4, 13]) (by kernel_rfl) (by simp) ?_; refine (AllReadyH.cons rfl (fun K hK => ?_) (AllReadyH.cons rfl (fun K hK => ?_) AllReadyH.nil)))
        · go_simp
          (refine hK.out _ _ (by first | exact Hpc.out.drew | exact P4.out | exact P4.out.alloc _ | exact P6.out | exact P6.out.far HGP.out _) (fun _ => ?_); clear hK K; (try simp only [Act.put, List.setIfInBounds_toArray, List.set_cons_zero, List.set_cons_succ]))
          (refine wpAnyH_ready (rs := [13]) (by kernel_rfl) (by simp) ?_; refine (AllReadyH.cons rfl (fun K hK => ?_) AllReadyH.nil))
          go_simp
          (refine hK.out _ _ (by first | exact Hpc.out.drew | exact P4.out | exact P4.out.alloc _ | exact P6.out | exact P6.out.far HGP.out _) (fun _ => ?_); clear hK K; (try simp only [Act.put, List.setIfInBounds_toArray, List.set_cons_zero, List.set_cons_succ]))
          (refine wpAnyH_ready (rs := [14]) (by kernel_rfl) (by simp) ?_; refine (AllReadyH.cons rfl (fun K hK => ?_) AllReadyH.nil))
          (refine step_app_atS _ (by rfl) _ _ 32 (by rfl) base 35 rpkz 9 72 rpkk x.pv n2 (pkRow x.qs) (by rfl) (Hrow.out.keep (below_alloc' Hb4.out _)) (.slice (some ⟨w4.heap.size, 0, none⟩) 1 1) 1 [.int .u32 (src : Int), .int .u32 (dst : Int), .int .i64 proto, .int .i64 id, .int .i64 off, .bool more, .bool wh, .int .i64 ttl, .slice A1 n c1] (by rfl) (rowS_lit 9 #[.int .u32 (src : Int), .int .u32 (dst : Int), .int .i64 proto, .int .i64 id, .int .i64 off, .bool more, .bool wh, .int .i64 ttl, .slice A1 n c1] 1 _ rfl rfl (by simp [maxLen])) (by simp [Value.oneCell']) (by decide) (by omega) (by simp only [maxLen]; omega) (Nat.le_trans KT.out.zone (below_alloc' Hb4.out _).size) ?_; intro v6 w6 hr6 hg6 hv6; have hwy : Below wt.heap.size wt (w4.alloc (.cells #[.int .u32 (src : Int), .int .u32 (dst : Int), .int .i64 proto, .int .i64 id, .int .i64 off, .bool more, .bool wh, .int .i64 ttl, .slice A1 n c1] 35)) := below_alloc' Hb4.out _; obtain ⟨A6, cap6, rfl⟩ : ∃ A c, v6 = .slice A (n2 + 1) c := (by obtain ⟨_, A, c, h, _⟩ := hr6.rowN; exact ⟨A, c, h⟩); have hb6 := (Hxi.out.blk.keep hwy).grown hg6 (fun e => (Hxi.out.row.keep hwy).ne (Hxi.out.blk.keep hwy) (by decide) e.symm); have P6 := hid ((Hpc.out.keep hwy).grown hg6 (fun e => (HF1r.out _ (Hxi.out.fp _ e.symm)).1 rfl)); have Hr6 := hid hr6; have Hf6 := hid ((Below.frameF (below_alloc w4 (.cells #[.int .u32 (src : Int), .int .u32 (dst : Int), .int .i64 proto, .int .i64 id, .int .i64 off, .bool more, .bool wh, .int .i64 ttl, .slice A1 n c1] 35)) (fun k => k = x.g ∨ x.pv.ownBlock = some k)).trans (frame_grown hg6 (F := fun k => k = x.g ∨ x.pv.ownBlock = some k) (fun k hk => .inr hk)) (fun _ _ h => h)); have Hv6 := hid (show ∀ k, (Value.slice A6 (n2 + 1) cap6).ownBlock = some k → x.pv.ownBlock = some k ∨ wt.heap.size ≤ k from fun k hk => (by rcases hv6 with q | q; exact .inl (by rw [← q]; exact hk); rw [q] at hk; injection hk with hk; have := hwy.size; exact .inr (by omega))); have e10 : w6.cell? ⟨x.g, 10, none⟩ = some x.pv := hb6.cell 10; have z10 := hb6.frozen 10; have Hb6 := hid hb6; clear hwy hr6 hg6 hv6 hb6)
          (refine hK.out _ _ (by first | exact Hpc.out.drew | exact P4.out | exact P4.out.alloc _ | exact P6.out | exact P6.out.far HGP.out _) (fun _ => ?_); clear hK K; (try simp only [Act.put, List.setIfInBounds_toArray, List.set_cons_zero, List.set_cons_succ]))
          (refine wpAnyH_ready (rs := [15]) (by kernel_rfl) (by simp) ?_; refine (AllReadyH.cons rfl (fun K hK => ?_) AllReadyH.nil))
          go_simp
          (refine hK.out _ _ (by first | exact Hpc.out.drew | exact P4.out | exact P4.out.alloc _ | exact P6.out | exact P6.out.far HGP.out _) (fun _ => ?_); clear hK K; (try simp only [Act.put, List.setIfInBounds_toArray, List.set_cons_zero, List.set_cons_succ]))
          (refine wpAnyH_ready (rs := [16]) (by kernel_rfl) (by simp) ?_; refine (AllReadyH.cons rfl (fun K hK => ?_) AllReadyH.nil))
          go_simp
          (refine hK.out _ _ (by first | exact Hpc.out.drew | exact P4.out | exact P4.out.alloc _ | exact P6.out | exact P6.out.far HGP.out _) (fun _ => ?_); clear hK K; (try simp only [Act.put, List.setIfInBounds_toArray, List.set_cons_zero, List.set_cons_succ]))
          (refine wpAnyH_ready (rs := [17]) (by kernel_rfl) (by simp) ?_; refine (AllReadyH.cons rfl (fun K hK => ?_) AllReadyH.nil))
          go_simp
          (refine hK.out _ _ (by first | exact Hpc.out.drew | exact P4.out | exact P4.out.alloc _ | exact P6.out | exact P6.out.far HGP.out _) (fun _ => ?_); clear hK K; (try simp only [Act.put, List.setIfInBounds_toArray, List.set_cons_zero, List.set_cons_succ]))
          refine wpAnyH_done (by kernel_rfl) ?_ _
          go_wp2_with fail
          go_meet
          case rel =>
            have hgs := grown_set w6 x.g 10 (.slice A6 (n2 + 1) cap6)
            have hf7 := Hf6.out.trans (frame_grown hgs (F := fun k => k = x.g ∨ x.pv.ownBlock = some k) (fun k hk => .inl (by injection hk with hk; exact hk.symm))) (fun _ _ h => h)
            refine ⟨A1, c1, .slice A6 (n2 + 1) cap6, Hb6.out.set_ 10 _, Hr6.out.same (fun k hk => hgs.block k (Hr6.out.lt hk).2 (fun e => ?_)), hf7.own Hown4.out (fun k hk q => ?_), (Below.frameF Hb4.out (fun k => k = x.g ∨ x.pv.ownBlock = some k)).trans hf7 (fun _ _ h => h), Hv6.out⟩
            · injection e with e
              subst e
              exact Hr6.out.ne Hb6.out (by decide) hk
            · have h1 := (own_at Hown4.out hk).1
              rcases q with q | q
              · have := Hxi.out.blk.lt; omega
              · have := (Hxi.out.row.lt q).2; omega
        · go_simp
          (refine hK.out _ _ (by first | exact Hpc.out.drew | exact P4.out | exact P4.out.alloc _ | exact P6.out | exact P6.out.far HGP.out _) (fun _ => ?_); clear hK K; (try simp only [Act.put, List.setIfInBounds_toArray, List.set_cons_zero, List.set_cons_succ]))
          (refine wpAnyH_ready (rs := [4]) (by kernel_rfl) (by simp) ?_; refine (AllReadyH.cons rfl (fun K hK => ?_) AllReadyH.nil))
          go_simp
          (refine hK.out _ _ (by first | exact Hpc.out.drew | exact P4.out | exact P4.out.alloc _ | exact P6.out | exact P6.out.far HGP.out _) (fun _ => ?_); clear hK K; (try simp only [Act.put, List.setIfInBounds_toArray, List.set_cons_zero, List.set_cons_succ]))
          (refine wpAnyH_ready (rs := [14]) (by kernel_rfl) (by simp) ?_; refine (AllReadyH.cons rfl (fun K hK => ?_) AllReadyH.nil))
          (refine step_app_atS _ (by rfl) _ _ 32 (by rfl) base 35 rpkz 9 72 rpkk x.pv n2 (pkRow x.qs) (by rfl) (Hrow.out.keep (below_alloc' Hb4.out _)) (.slice (some ⟨w4.heap.size, 0, none⟩) 1 1) 1 [.int .u32 (src : Int), .int .u32 (dst : Int), .int .i64 proto, .int .i64 id, .int .i64 off, .bool more, .bool wh, .int .i64 ttl, .slice A1 n c1] (by rfl) (rowS_lit 9 #[.int .u32 (src : Int), .int .u32 (dst : Int), .int .i64 proto, .int .i64 id, .int .i64 off, .bool more, .bool wh, .int .i64 ttl, .slice A1 n c1] 1 _ rfl rfl (by simp [maxLen])) (by simp [Value.oneCell']) (by decide) (by omega) (by simp only [maxLen]; omega) (Nat.le_trans KT.out.zone (below_alloc' Hb4.out _).size) ?_; intro v6 w6 hr6 hg6 hv6; have hwy : Below wt.heap.size wt (w4.alloc (.cells #[.int .u32 (src : Int), .int .u32 (dst : Int), .int .i64 proto, .int .i64 id, .int .i64 off, .bool more, .bool wh, .int .i64 ttl, .slice A1 n c1] 35)) := below_alloc' Hb4.out _; obtain ⟨A6, cap6, rfl⟩ : ∃ A c, v6 = .slice A (n2 + 1) c := (by obtain ⟨_, A, c, h, _⟩ := hr6.rowN; exact ⟨A, c, h⟩); have hb6 := (Hxi.out.blk.keep hwy).grown hg6 (fun e => (Hxi.out.row.keep hwy).ne (Hxi.out.blk.keep hwy) (by decide) e.symm); have P6 := hid ((Hpc.out.keep hwy).grown hg6 (fun e => (HF1r.out _ (Hxi.out.fp _ e.symm)).1 rfl)); have Hr6 := hid hr6; have Hf6 := hid ((Below.frameF (below_alloc w4 (.cells #[.int .u32 (src : Int), .int .u32 (dst : Int), .int .i64 proto, .int .i64 id, .int .i64 off, .bool more, .bool wh, .int .i64 ttl, .slice A1 n c1] 35)) (fun k => k = x.g ∨ x.pv.ownBlock = some k)).trans (frame_grown hg6 (F := fun k => k = x.g ∨ x.pv.ownBlock = some k) (fun k hk => .inr hk)) (fun _ _ h => h)); have Hv6 := hid (show ∀ k, (Value.slice A6 (n2 + 1) cap6).ownBlock = some k → x.pv.ownBlock = some k ∨ wt.heap.size ≤ k from fun k hk => (by rcases hv6 with q | q; exact .inl (by rw [← q]; exact hk); rw [q] at hk; injection hk with hk; have := hwy.size; exact .inr (by omega))); have e10 : w6.cell? ⟨x.g, 10, none⟩ = some x.pv := hb6.cell 10; have z10 := hb6.frozen 10; have Hb6 := hid hb6; clear hwy hr6 hg6 hv6 hb6)
          (refine hK.out _ _ (by first | exact Hpc.out.drew | exact P4.out | exact P4.out.alloc _ | exact P6.out | exact P6.out.far HGP.out _) (fun _ => ?_); clear hK K; (try simp only [Act.put, List.setIfInBounds_toArray, List.set_cons_zero, List.set_cons_succ]))
          (refine wpAnyH_ready (rs := [15]) (by kernel_rfl) (by simp) ?_; refine (AllReadyH.cons rfl (fun K hK => ?_) AllReadyH.nil))
          go_simp
          (refine hK.out _ _ (by first | exact Hpc.out.drew | exact P4.out | exact P4.out.alloc _ | exact P6.out | exact P6.out.far HGP.out _) (fun _ => ?_); clear hK K; (try simp only [Act.put, List.setIfInBounds_toArray, List.set_cons_zero, List.set_cons_succ]))
          (refine wpAnyH_ready (rs := [16]) (by kernel_rfl) (by simp) ?_; refine (AllReadyH.cons rfl (fun K hK => ?_) AllReadyH.nil))
          go_simp
          (refine hK.out _ _ (by first | exact Hpc.out.drew | exact P4.out | exact P4.out.alloc _ | exact P6.out | exact P6.out.far HGP.out _) (fun _ => ?_); clear hK K; (try simp only [Act.put, List.setIfInBounds_toArray, List.set_cons_zero, List.set_cons_succ]))
          (refine wpAnyH_ready (rs := [17]) (by kernel_rfl) (by simp) ?_; refine (AllReadyH.cons rfl (fun K hK => ?_) AllReadyH.nil))
          go_simp
          (refine hK.out _ _ (by first | exact Hpc.out.drew | exact P4.out | exact P4.out.alloc _ | exact P6.out | exact P6.out.far HGP.out _) (fun _ => ?_); clear hK K; (try simp only [Act.put, List.setIfInBounds_toArray, List.set_cons_zero, List.set_cons_succ]))
          refine wpAnyH_done (by kernel_rfl) ?_ _
          go_wp2_with fail
          go_meet
          case rel =>
            have hgs := grown_set w6 x.g 10 (.slice A6 (n2 + 1) cap6)
            have hf7 := Hf6.out.trans (frame_grown hgs (F := fun k => k = x.g ∨ x.pv.ownBlock = some k) (fun k hk => .inl (by injection hk with hk; exact hk.symm))) (fun _ _ h => h)
            refine ⟨A1, c1, .slice A6 (n2 + 1) cap6, Hb6.out.set_ 10 _, Hr6.out.same (fun k hk => hgs.block k (Hr6.out.lt hk).2 (fun e => ?_)), hf7.own Hown4.out (fun k hk q => ?_), (Below.frameF Hb4.out (fun k => k = x.g ∨ x.pv.ownBlock = some k)).trans hf7 (fun _ _ h => h), Hv6.out⟩
            · injection e with e
              subst e
              exact Hr6.out.ne Hb6.out (by decide) hk
            · have h1 := (own_at Hown4.out hk).1
              rcases q with q | q
              · have := Hxi.out.blk.lt; omega
              · have := (Hxi.out.row.lt q).2; omega
    case rest =>
    obtain ⟨A1, c1, pv2, hblk, hrow2, hown2, hfr2, hv2⟩ := hcut
    generalize wc = w7 at *
    have hpk : pkCells (twn (⟨src, dst, proto, id, off, more, whole, ttl, body⟩ : Pk)) (.slice A1 n c1) = [.int .u32 (src : Int), .int .u32 (dst : Int), .int .i64 proto, .int .i64 id, .int .i64 off, .bool more, .bool wh, .int .i64 ttl, .slice A1 n c1] := by rw [← Hwh.out]; rfl
    have hxi := Hxi.out
    have hok3 : (pMore x.w (⟨src, dst, proto, id, off, more, whole, ttl, body⟩ : Pk)).Ok := Hok2.out.ok
    have hsz7 := hfr2.size
    have hwt : w.heap.size + 2 ≤ wt.heap.size := Hrc.out.lt
    have HG := hid (show ∀ k, (k = x.g ∨ x.pv.ownBlock = some k) → F1 k from fun k hk => by
      rcases hk with rfl | hk
      · exact hxi.fg
      · exact hxi.fp k hk)
    have hpc7 := hfr2.blk Hpc.out (fun q => (HF1r.out _ (HG.out _ q)).1 rfl)
    have hrc7 := hfr2.blk Hrc.out (fun q => (HF1r.out _ (HG.out _ q)).2 rfl)
    have hFR := Hfr.out.trans hfr2 (fun i hi q => by
      rcases HF1.out i (HG.out i q) with q | q
      · exact q
      · omega)
    have Hbs7 := hid (bs_frame HBs.out hFR HvF.out)
    have itx : RItAt w7 base clock (⟨pMore x.w (⟨src, dst, proto, id, off, more, whole, ttl, body⟩ : Pk), x.g, x.kp, x.kv, pv2, x.qs ++ [(twn (⟨src, dst, proto, id, off, more, whole, ttl, body⟩ : Pk), .slice A1 n c1)]⟩ : RIt) (fun k => F1 k ∨ (Value.slice A1 n c1).ownBlock = some k ∨ pv2.ownBlock = some k) := by
      refine ⟨hblk, hxi.one, hxi.key, ?_, ?_, ?_, .inl hxi.fg, fun k hk => .inr (.inr hk), ?_⟩
      · have e1 : (x.qs ++ [(twn (⟨src, dst, proto, id, off, more, whole, ttl, body⟩ : Pk), Value.slice A1 n c1)]).length = n2 + 1 := by rw [List.length_append, Hn2.out]; rfl
        rw [e1, pkRow_snoc, hpk]
        exact hrow2
      · intro q hq
        rcases List.mem_append.1 hq with hq | hq
        · refine hfr2.own (hxi.bod q hq) fun k hk => ?_
          obtain ⟨cur, hcur⟩ := own_blkS (hxi.bod q hq) hk
          exact hxi.not hcur (by decide)
        · simp at hq
          subst hq
          exact hown2.mono KT.out.zone
      · rw [List.map_append, hxi.fst]
        show _ = (x.w.parts ++ [(⟨src, dst, proto, id, off, more, whole, ttl, body⟩ : Pk)]).map twn
        rw [List.map_append]
        rfl
      · intro q hq k hk
        rcases List.mem_append.1 hq with hq | hq
        · exact .inl (hxi.fb q hq k hk)
        · simp at hq
          subst hq
          exact .inr (.inl hk)
    have K3 : RPtAt w7 base g clock (swapR L1 x (⟨pMore x.w (⟨src, dst, proto, id, off, more, whole, ttl, body⟩ : Pk), x.g, x.kp, x.kv, pv2, x.qs ++ [(twn (⟨src, dst, proto, id, off, more, whole, ttl, body⟩ : Pk), .slice A1 n c1)]⟩ : RIt)) (m + 1) vr1 (fun k => F1 k ∨ (Value.slice A1 n c1).ownBlock = some k ∨ pv2.ownBlock = some k) := by
      refine KT.out.turn Hx.out rfl rfl (fun k hk => .inl hk) (hfr2.blk KT.out.tab (hxi.not KT.out.tab (by decide))) (KT.out.row.same fun k hk => hfr2.block k (KT.out.row.lt hk).2 ?_) (fun y hy hne => ((KT.out.it y hy).aside hxi hne (KT.out.part Hx.out hy hne) hfr2).weaken (fun k hk => .inl hk)) itx (fun y hy hne k hk => ?_) hok3 ?_ (Nat.le_refl _) (fun k hk => ?_)
      · obtain ⟨cur, hcur⟩ := KT.out.row.blk hk
        exact hxi.not hcur (by decide)
      · rcases hv2 k hk with q | q
        · exact KT.out.part Hx.out hy hne k q
        · intro r
          have := ((KT.out.it y hy).row.lt r).2
          omega
      · rw [List.length_append, Hn2.out]
        simp
        omega
      · rcases hk with hk | hk | hk
        · have := KT.out.flt k hk; omega
        · have := own_at hown2 hk; have := KT.out.zone; omega
        · exact hrow2.lt hk
    have HF2s := hid (show ∀ k, (fun k => F1 k ∨ (Value.slice A1 n c1).ownBlock = some k ∨ pv2.ownBlock = some k) k → F k ∨ w.heap.size + 2 ≤ k from fun k hk => by
      rcases hk with hk | hk | hk
      · exact HF1.out k hk
      · have := own_at hown2 hk; exact .inr (by omega)
      · rcases hv2 k hk with q | q
        · exact HF1.out k (hxi.fp k q)
        · exact .inr (by omega))
    have hoks : ∀ q ∈ x.qs ++ [(twn (⟨src, dst, proto, id, off, more, whole, ttl, body⟩ : Pk), Value.slice A1 n c1)], 0 ≤ q.1.off ∧ q.1.to ≤ 65515 := fun q hq => by
      have : q.1 ∈ (pMore x.w (⟨src, dst, proto, id, off, more, whole, ttl, body⟩ : Pk)).parts.map twn := by rw [← itx.fst]; exact List.mem_map_of_mem hq
      obtain ⟨r, hr, e⟩ := List.mem_map.1 this
      rw [← e]
      exact hok3.off r hr
    have HWh := rwhole_at pv2 (x.qs ++ [(twn (⟨src, dst, proto, id, off, more, whole, ttl, body⟩ : Pk), Value.slice A1 n c1)]) w7 itx.row.rowN (fun q hq => (itx.bod q hq).bs) hoks (by rw [List.length_append, Hn2.out]; simp; omega)
    rw [itx.fst] at HWh
    have hwl := whole_law Hok2.out (pMore x.w (⟨src, dst, proto, id, off, more, whole, ttl, body⟩ : Pk)).k
    have hln := whole_len Hok2.out (pMore x.w (⟨src, dst, proto, id, off, more, whole, ttl, body⟩ : Pk)).k
    have hsw := KT.out.swap_w (x' := (⟨pMore x.w (⟨src, dst, proto, id, off, more, whole, ttl, body⟩ : Pk), x.g, x.kp, x.kv, pv2, x.qs ++ [(twn (⟨src, dst, proto, id, off, more, whole, ttl, body⟩ : Pk), .slice A1 n c1)]⟩ : RIt)) Hx.out rfl
    have hxm : (⟨pMore x.w (⟨src, dst, proto, id, off, more, whole, ttl, body⟩ : Pk), x.g, x.kp, x.kv, pv2, x.qs ++ [(twn (⟨src, dst, proto, id, off, more, whole, ttl, body⟩ : Pk), .slice A1 n c1)]⟩ : RIt) ∈ swapR L1 x (⟨pMore x.w (⟨src, dst, proto, id, off, more, whole, ttl, body⟩ : Pk), x.g, x.kp, x.kv, pv2, x.qs ++ [(twn (⟨src, dst, proto, id, off, more, whole, ttl, body⟩ : Pk), .slice A1 n c1)]⟩ : RIt) := List.mem_map.2 ⟨x, Hx.out, if_pos rfl⟩
    have hrw := K3.rmv_w hxm
    have Hxm := hid hxm
    have hp1 := Hp.out
    dsimp only at hsw hrw HWh
    rw [hwl] at HWh
    rw [← hsw] at hp1
    rw [show (pMore x.w (⟨src, dst, proto, id, off, more, whole, ttl, body⟩ : Pk)).k = Pk.key (⟨src, dst, proto, id, off, more, whole, ttl, body⟩ : Pk) from Hxk.out] at hrw HWh hp1 hln
    obtain ⟨⟨qp, qb⟩, hq⟩ : ∃ q, pWhole (Pk.key (⟨src, dst, proto, id, off, more, whole, ttl, body⟩ : Pk)) (pMore x.w (⟨src, dst, proto, id, off, more, whole, ttl, body⟩ : Pk)).parts (pMore x.w (⟨src, dst, proto, id, off, more, whole, ttl, body⟩ : Pk)).fin = q := ⟨_, rfl⟩
    rw [hq] at HWh hp1 hln
    have d10 : w7.cell? ⟨x.g, 10, none⟩ = some pv2 := hblk.cell 10
    have Hq := hid hq
    have Hrw := hid hrw
    have Hp1 := hid hp1
    have K3 := hid K3
    have HFR := hid hFR
    have Hpc7 := hid hpc7
    have Hrc7 := hid hrc7
    have Hwt := hid hwt
    have Hsz7 := hid hsz7
    have Hln := hid hln
    have HFg := hid (KT.out.flt _ KT.out.fg)
    have HWh := hid HWh
    generalize (fun k => F1 k ∨ (Value.slice A1 n c1).ownBlock = some k ∨ pv2.ownBlock = some k) = F2 at *
    generalize swapR L1 x (⟨pMore x.w (⟨src, dst, proto, id, off, more, whole, ttl, body⟩ : Pk), x.g, x.kp, x.kv, pv2, x.qs ++ [(twn (⟨src, dst, proto, id, off, more, whole, ttl, body⟩ : Pk), .slice A1 n c1)]⟩ : RIt) = L9 at *
    have HDr := hid (fun wx (y : Below w7.heap.size w7 wx) => rdrop_at base g clock L9 (m + 1) vr1 F2 x.g ⟨_, Hxm.out, rfl⟩ wx (K3.out.keep y))
    clear hxm hwl hoks itx hpk hxi hok3 hsz7 hwt hpc7 hrc7 hFR hq hrw hp1 hln hsw hblk hrow2 hown2 hfr2 hv2 Hp Hxk HT c10 Hok2
    cases qb with
    | false =>
      have HWh2 := hid (show Calls Try.prog 48 #[pv2] w7 (fun e w' => Below w7.heap.size w7 w' ∧ ∃ v', e = .returned (.tuple #[v', .int .i64 0, .bool false])) from HWh.out.mono (fun e w' h => ⟨h.1, by obtain ⟨v', he, _⟩ := h.2; exact ⟨v', he⟩⟩))
      clear HWh
      go_wp2_with (first
        | (go_at_call 48; refine HWh2.out.mono ?_; rintro e w8 ⟨hb8, v8, rfl⟩; have Hb8 := hid hb8; have Hbr3 := hid (Hrc7.out.keep hb8); clear hb8)
        | ((with_reducible show wpList _ _ _ (Oper.mk none _ _ _ _ _ :: _) _ _); refine wpList_storeBlk rfl _ _ _ rfl _ _ rfl rfl _ _ Hbr3.out rpkinfo rfl rfl ?_; intro w9 hblk9 hg9 hsz9; have Hblk9 := hid hblk9; have Hg9 := hid hg9; clear hblk9 hg9 hsz9)
        | fail)
      refine ret_cell2 rfl (w.heap.size + 1) 35 _ _ rfl Hblk9.out Try.underlying35 rpkinfo _ rfl rfl ?_
      unfold RAddPost
      have hp1 := Hp1.out
      rw [if_neg (by simp)] at hp1
      rw [hp1]
      have hw0 := Hwt.out
      refine ⟨.slice none 0 0, rfl, OwnBs.nil _ _ _, F2, ⟨L9, vr1, rfl, (K3.out.keep Hb8.out).same (frame_one Hg9.out) (fun k hk e => ?_)⟩, ?_, fun k hk => ?_⟩
      · rcases HF2s.out k hk with q | q
        · have := HFb.out k q; omega
        · omega
      · exact (HFR.out.trans (Below.frameF Hb8.out F) (fun _ _ h => h)).trans (frame_one Hg9.out) (fun i hi q => by omega)
      · rcases HF2s.out k hk with q | q
        · exact .inl q
        · exact .inr (by omega)
    | true =>
      obtain ⟨tt9, bd9, rfl⟩ := whole_form Hq.out
      have HWh2 := hid (show Calls Try.prog 48 #[pv2] w7 (fun e w' => Below w7.heap.size w7 w' ∧ ∃ v', e = .returned (.tuple #[v', .int .i64 tt9, .bool true]) ∧ OwnBs w' w7.heap.size 5 v' bd9) from HWh.out)
      clear HWh
      obtain ⟨n9, hn9⟩ : ∃ z, bd9.length = z := ⟨_, rfl⟩
      have Hn9 := hid hn9
      have HT2 := hid (show ∀ wx v8, Bs wx (.slice A n cap) body → Bs wx v8 bd9 → Calls Try.prog 32 #[.agg #[.int .u32 (src : Int), .int .u32 (dst : Int), .int .i64 proto, .int .i64 id, .int .i64 off, .bool more, .bool whole, .int .i64 ttl, .slice A n cap], .int .i64 0, v8, .bool false] wx fun e w' => ∃ A2 c2, e = .returned (.agg #[.int .u32 (src : Int), .int .u32 (dst : Int), .int .i64 proto, .int .i64 id, .int .i64 0, .bool false, .bool true, .int .i64 ttl, .slice A2 n9 c2]) ∧ OwnBs w' wx.heap.size 5 (.slice A2 n9 c2) bd9 ∧ Below wx.heap.size wx w' from fun wx v8 h1 h2 => by
        refine (rtwin_any (.slice A n cap) (⟨src, dst, proto, id, off, more, whole, ttl, body⟩ : Pk) 0 v8 bd9 false wx h1 h2 (Nat.le_trans Hln.out (by decide))).mono ?_
        rintro e w' ⟨v', rfl, ho, hb'⟩
        obtain ⟨A2, c2, rfl⟩ := slice_len ho.bs Hn9.out
        exact ⟨A2, c2, rfl, ho, hb'⟩)
      clear hn9
      go_wp2_with (first
        | (go_at_call 48; refine HWh2.out.mono ?_; rintro e w8 ⟨hb8, v8, rfl, hown8⟩; have Hb8 := hid hb8; have Hown8 := hid hown8; clear hb8 hown8)
        | (go_at_call 45; refine (HDr.out _ Hb8.out).mono ?_; rintro e w9 ⟨⟨u, rfl⟩, vr', F', hk9, hfr9, hF9⟩; have Hk9 := hid hk9; have Hfr9 := hid hfr9; have HF9 := hid hF9; clear hk9 hfr9 hF9; have Hpc9 := hid (Hfr9.out.blk (Hpc7.out.keep Hb8.out) (fun e => (by have := (HAt.out.flt _ HAt.out.fg).2; omega))); have Hrc9 := hid (Hfr9.out.blk (Hrc7.out.keep Hb8.out) (fun e => (by have := (HAt.out.flt _ HAt.out.fg).2; omega))); have Hbs9 := hid (bs_frame (Hbs7.out.below Hb8.out) Hfr9.out (fun a n c e hz q => HvF.out a n c e hz (by rw [q]; exact HAt.out.fg))); have Hown9 := hid (Hfr9.out.own Hown8.out (fun k hk e => by have h1 := own_at Hown8.out hk; have h2 := (HAt.out.flt _ HAt.out.fg).2; have h3 := Hwt.out; have h4 := Hsz7.out; omega)))
        | ((with_reducible show wpList _ _ _ (Oper.mk (some 152) _ _ _ _ _ :: _) _ _); refine wpList_loadBlk rfl _ _ rfl _ rfl _ _ _ Hpc9.out Try.underlying35 rpkinfo ?_)
        | (go_at_call 32; refine (HT2.out w9 v8 Hbs9.out (OwnBs.bs Hown9.out)).mono ?_; rintro e w3 ⟨A2, c2, rfl, hown3, hb3⟩; have Hb3 := hid hb3; have Hown3 := hid hown3; have Hbr3 := hid ((Hrc9.out.keep hb3).alloc (.cells #[.int .u32 (src : Int), .int .u32 (dst : Int), .int .i64 proto, .int .i64 id, .int .i64 0, .bool false, .bool true, .int .i64 tt9, .slice A2 n9 c2] 35)); clear hb3 hown3)
        | ((with_reducible show wpList _ _ _ (Oper.mk none _ _ _ _ _ :: _) _ _); refine wpList_storeBlk rfl _ _ _ rfl _ _ rfl rfl _ _ Hbr3.out rpkinfo rfl rfl ?_; intro w9 hblk9 hg9 hsz9; have Hblk9 := hid hblk9; have Hg9 := hid hg9; clear hblk9 hg9 hsz9)
        | fail)
      refine ret_cell2 rfl (w.heap.size + 1) 35 _ _ rfl Hblk9.out Try.underlying35 rpkinfo _ rfl rfl ?_
      unfold RAddPost
      have hp1 := Hp1.out
      rw [if_pos trivial] at hp1
      rw [hp1]
      have hw0 := Hwt.out
      have hw7 := Hsz7.out
      have hs8 := Hb8.out.size
      have hs9 := Hfr9.out.size
      have hb4 := below_alloc' Hb3.out (.cells #[.int .u32 (src : Int), .int .u32 (dst : Int), .int .i64 proto, .int .i64 id, .int .i64 0, .bool false, .bool true, .int .i64 tt9, .slice A2 n9 c2] 35)
      refine ⟨.slice A2 n9 c2, rfl, ?_, F', ⟨_, vr', Hrw.out, (Hk9.out.keep hb4).same (frame_one Hg9.out) (fun k hk e => ?_)⟩, ?_, fun k hk => ?_⟩
      · exact (ownBs_store (Hown3.out.alloc (.cells #[.int .u32 (src : Int), .int .u32 (dst : Int), .int .i64 proto, .int .i64 id, .int .i64 0, .bool false, .bool true, .int .i64 tt9, .slice A2 n9 c2] 35)) Hbr3.out (by decide) Hg9.out).mono (by omega)
      · rcases HF9.out k hk with q | q
        · rcases HF2s.out k q with q | q
          · have := HFb.out k q; omega
          · omega
        · omega
      · exact ((((HFR.out.trans (Below.frameF Hb8.out F) (fun _ _ h => h)).trans Hfr9.out (fun i hi q => by rw [q]; exact HAt.out.fg)).trans (Below.frameF hb4 F) (fun _ _ h => h))).trans (frame_one Hg9.out) (fun i hi q => by omega)
      · rcases HF9.out k hk with q | q
        · rcases HF2s.out k q with q | q
          · exact .inl q
          · exact .inr (by omega)
        · exact .inr (by omega)
  | none =>
    have hno : ∀ x ∈ L, x.w.k ≠ Pk.key (⟨src, dst, proto, id, off, more, whole, ttl, body⟩ : Pk) := by
      rcases Ho.out with ⟨_, h⟩ | ⟨x, hx, h, hk⟩
      · exact h
      · cases h
    have Hno := hid hno
    have g1 : w2.cell? ⟨g, 1, none⟩ = some vr := K2.out.tab.cell 1
    obtain ⟨_, R, capR, hvr, hcR1, hcR2, hcR⟩ := K2.out.row.rowN
    have Hvr := hid hvr
    have HcR := hid hcR
    rw [hvr] at g1
    have hcR2' : capR ≤ 9223372036854775807 := by simp only [maxLen] at hcR2; omega
    have hlL : L.length ≤ 4 := by have := HAt.out.ok.len; simpa using this
    unfold ptrV
    clear hno hvr hcR hcR2
    go_upto_if 94 with fail
    go_cut [] from 94 to 102 (fun wx => ∃ L0 vr0 F0, L0 = (if L.length = 4 then L.drop 1 else L) ∧ RPtAt wx base g clock L0 m vr0 F0 ∧ Frame (fun k => k = g) w2 wx ∧ ∀ k, F0 k → F k ∨ w2.heap.size ≤ k)
    case first =>
      by_cases h4 : L.length = 4
      · have h4b : (4 : Int) ≤ (L.length : Int) := by omega
        obtain ⟨x0, rest, hL⟩ : ∃ x0 rest, L = x0 :: rest := by
          match L, h4 with
          | x0 :: rest, _ => exact ⟨x0, rest, rfl⟩
        have HR := hid (show (if L.length = 4 then L.drop 1 else L) = rest by rw [if_pos h4, hL]; rfl)
        have hx0 : x0 ∈ L := by rw [hL]; exact List.mem_cons_self ..
        have HDr := rdrop_at base g clock L m vr F x0.g ⟨x0, hx0, rfl⟩ w2 K2.out
        have hrm : rmv L x0.g = rest := by
          have := HAt.out
          rw [hL] at this ⊢
          exact rmv_first this
        rw [hrm] at HDr
        have HDr := hid HDr
        obtain ⟨gr, off0, rfl, hcr⟩ : ∃ gr off, R = some ⟨gr, off, none⟩ ∧ w2.cell? ⟨gr, off, none⟩ = some (.pointer (some ⟨x0.g, 0, none⟩)) := by
          rcases HcR.out with h0 | ⟨gr, off, rfl, hc⟩
          · omega
          · exact ⟨gr, off, rfl, hc 0 _ (by rw [hL]; rfl)⟩
        have h0L : (0 : Int) < (L.length : Int) := by omega
        clear hrm hx0 hL h4
        go_wp2_with (first | (go_at_call 45; refine HDr.out.mono ?_; rintro e w6 ⟨⟨u, rfl⟩, vr', F', hk6, hfr6, hF6⟩; have Hk6 := hid (And.intro hk6 (And.intro hfr6 hF6)); clear hk6 hfr6 hF6) | fail)
        go_meet
        case rel => exact ⟨rest, _, _, HR.out.symm, Hk6.out.1, Hk6.out.2.1, Hk6.out.2.2⟩
      · have h4b : ¬ (4 : Int) ≤ (L.length : Int) := by omega
        have Hr := hid (show ∃ L0 vr0 F0, L0 = (if L.length = 4 then L.drop 1 else L) ∧ RPtAt w2 base g clock L0 m vr0 F0 ∧ Frame (fun k => k = g) w2 w2 ∧ ∀ k, F0 k → F k ∨ w2.heap.size ≤ k from ⟨L, vr, F, by rw [if_neg h4], K2.out, Frame.refl _ _, fun k hk => .inl hk⟩)
        go_wp2_with fail
        go_meet
        case rel => exact Hr.out
    case rest =>
    obtain ⟨L0, vr0, F0, hL0, K0, hfr, hF0⟩ := hcut
    generalize wc = w4 at *
    have hL0l : L0.length < 4 := by
      rw [hL0]
      split
      · rename_i h4
        rw [List.length_drop, h4]; omega
      · rename_i h4
        omega
    have hno0 : ∀ y ∈ L0, y.w.k ≠ Pk.key (⟨src, dst, proto, id, off, more, whole, ttl, body⟩ : Pk) := fun y hy => Hno.out y (by
      rw [hL0] at hy
      split at hy
      · exact List.mem_of_mem_drop hy
      · exact hy)
    have Hpf := hid (show pFind (L.map RIt.w) (Pk.key (⟨src, dst, proto, id, off, more, whole, ttl, body⟩ : Pk)) = ((L0 ++ [(⟨⟨⟨src, dst, proto, id⟩, [], -1, 0⟩, w4.heap.size, (⟨src, dst, proto, id, off, more, whole, ttl, body⟩ : Pk), .slice A n cap, .slice none 0 0, []⟩ : RIt)]).map RIt.w, ⟨⟨src, dst, proto, id⟩, [], -1, 0⟩) by
      rw [pFind_none Hno.out, ← hL0, List.map_append]; rfl)
    have Hno0 := hid hno0
    have K := hid K0
    have Hfr := hid hfr
    have HF0 := hid hF0
    have hs2 := Hs2.out
    have hgl := (K0.flt _ K0.fg).2
    have hgl0 := (HAt.out.flt _ HAt.out.fg).2
    have Hbp4 := hid (hfr.blk Hbp2.out (fun e => by omega))
    have Hbr4 := hid (hfr.blk Hbr2.out (fun e => by omega))
    have Hs4 := hid (show w.heap.size + 2 ≤ w4.heap.size from Nat.le_trans hs2 hfr.size)
    have gc : w4.cell? ⟨g, 0, none⟩ = some (.int .i64 clock) := K0.tab.cell 0
    have HK4 := hid (show ∀ wr, Below w4.heap.size w4 wr → wr.cell? ⟨g, 0, none⟩ = some (.int .i64 clock) ∧ wr.cell? ⟨w.heap.size, 0, none⟩ = some (.int .u32 (src : Int)) ∧ wr.cell? ⟨w.heap.size, 1, none⟩ = some (.int .u32 (dst : Int)) ∧ wr.cell? ⟨w.heap.size, 2, none⟩ = some (.int .i64 proto) ∧ wr.cell? ⟨w.heap.size, 3, none⟩ = some (.int .i64 id) ∧ wr.cell? ⟨w.heap.size, 4, none⟩ = some (.int .i64 off) ∧ wr.cell? ⟨w.heap.size, 5, none⟩ = some (.bool more) ∧ wr.cell? ⟨w.heap.size, 6, none⟩ = some (.bool whole) ∧ wr.cell? ⟨w.heap.size, 7, none⟩ = some (.int .i64 ttl) ∧ wr.cell? ⟨w.heap.size, 8, none⟩ = some (.slice A n cap) from fun wr hb =>
      ⟨(K.out.keep hb).tab.cell 0, (Hbp4.out.keep hb).cell 0, (Hbp4.out.keep hb).cell 1, (Hbp4.out.keep hb).cell 2, (Hbp4.out.keep hb).cell 3, (Hbp4.out.keep hb).cell 4, (Hbp4.out.keep hb).cell 5, (Hbp4.out.keep hb).cell 6, (Hbp4.out.keep hb).cell 7, (Hbp4.out.keep hb).cell 8⟩)
    clear hL0 K0 hfr hF0 hno0 Hvr HcR hcR1 hgl hgl0 hs2 g1
    go_upto_region 16 with fail
    go_region_held3 (fun wr => wr.cell? ⟨g, 0, none⟩ = some (.int .i64 clock) ∧ wr.cell? ⟨w.heap.size, 0, none⟩ = some (.int .u32 (src : Int)) ∧ wr.cell? ⟨w.heap.size, 1, none⟩ = some (.int .u32 (dst : Int)) ∧ wr.cell? ⟨w.heap.size, 2, none⟩ = some (.int .i64 proto) ∧ wr.cell? ⟨w.heap.size, 3, none⟩ = some (.int .i64 id) ∧ wr.cell? ⟨w.heap.size, 4, none⟩ = some (.int .i64 off) ∧ wr.cell? ⟨w.heap.size, 5, none⟩ = some (.bool more) ∧ wr.cell? ⟨w.heap.size, 6, none⟩ = some (.bool whole) ∧ wr.cell? ⟨w.heap.size, 7, none⟩ = some (.int .i64 ttl) ∧ wr.cell? ⟨w.heap.size, 8, none⟩ = some (.slice A n cap)) ((first | exact HK4.out _ (below_drew w4) | exact HK4.out _ (below_alloc' (below_drew w4) _))) (fail)
    have hb5 := (below_alloc w4 (.cells #[.int .u32 (src : Int), .int .u32 (dst : Int), .int .i64 proto, .int .i64 id, .int .i64 off, .bool more, .bool whole, .int .i64 ttl, .slice A n cap, .int .i64 clock, .slice none 0 0] 101)).drew
    have hx5 := Blk.new w4 101 #[.int .u32 (src : Int), .int .u32 (dst : Int), .int .i64 proto, .int .i64 id, .int .i64 off, .bool more, .bool whole, .int .i64 ttl, .slice A n cap, .int .i64 clock, .slice none 0 0]
    have HX5 := hid (show Blk ((w4.alloc (.cells #[.int .u32 (src : Int), .int .u32 (dst : Int), .int .i64 proto, .int .i64 id, .int .i64 off, .bool more, .bool whole, .int .i64 ttl, .slice A n cap, .int .i64 clock, .slice none 0 0] 101)).drew) w4.heap.size 101 (rwCells (⟨src, dst, proto, id, off, more, whole, ttl, body⟩ : Pk) (.slice A n cap) (clock - 0) (.slice none 0 0)) by rw [Int.sub_zero]; exact hx5)
    have Hb5 := hid hb5
    have Hs5 := hid (show ((w4.alloc (.cells #[.int .u32 (src : Int), .int .u32 (dst : Int), .int .i64 proto, .int .i64 id, .int .i64 off, .bool more, .bool whole, .int .i64 ttl, .slice A n cap, .int .i64 clock, .slice none 0 0] 101)).drew).heap.size = w4.heap.size + 1 by simp)
    clear hb5 hx5 gc HK4
    generalize (w4.alloc (.cells #[.int .u32 (src : Int), .int .u32 (dst : Int), .int .i64 proto, .int .i64 id, .int .i64 off, .bool more, .bool whole, .int .i64 ttl, .slice A n cap, .int .i64 clock, .slice none 0 0] 101)).drew = w5 at *
    have K5 := hid (K.out.keep Hb5.out)
    have hLB := below_alloc w5 (.cells #[.pointer (some ⟨w4.heap.size, 0, none⟩)] 102)
    have HLB := hid hLB
    have K6 := hid (K5.out.keep hLB)
    have g1a : w5.cell? ⟨g, 1, none⟩ = some vr0 := K5.out.tab.cell 1
    have g1 : (w5.alloc (.cells #[.pointer (some ⟨w4.heap.size, 0, none⟩)] 102)).cell? ⟨g, 1, none⟩ = some vr0 := K6.out.tab.cell 1
    have hbase : base ≤ (w5.alloc (.cells #[.pointer (some ⟨w4.heap.size, 0, none⟩)] 102)).heap.size := K6.out.zone
    have Hbase := hid hbase
    clear hLB hbase
    go_upto_region 18 with (first
      | ((with_reducible show wpList _ _ _ (Oper.mk (some 117) _ _ _ _ _ :: _) _ _); refine wpList_app_atS rfl _ _ 64 rfl base 102 (.pointer none) 1 8 rptrok vr0 L0.length (L0.map RIt.ptr) rfl K6.out.row (.slice (some ⟨w5.heap.size, 0, none⟩) 1 1) 1 [.pointer (some ⟨w4.heap.size, 0, none⟩)] rfl (rowS_lit 1 #[.pointer (some ⟨w4.heap.size, 0, none⟩)] 1 _ rfl rfl (by simp [maxLen])) (by simp [Value.oneCell']) (by decide) (by omega) (by simp only [maxLen]; omega) Hbase.out ?_; intro v6 w6 hr6 hg6 hv6; have htab := K6.out.tab.grown hg6 (fun e => K6.out.row.ne K6.out.tab (by decide) e.symm); have t1 : w6.cell? ⟨g, 1, none⟩ = some vr0 := htab.cell 1; have z1 := htab.frozen 1; have Htab := hid htab; have Hr6 := hid hr6; have Hg6 := hid hg6; have Hv6 := hid hv6; obtain ⟨A6, cap6, rfl⟩ : ∃ A c, v6 = .slice A (L0.length + 1) c := (by obtain ⟨_, A, c, h, _⟩ := hr6.rowN; exact ⟨A, c, h⟩); clear htab hr6 hg6 hv6)
      | fail)
    have hgs := grown_set w6 g 1 (.slice A6 (L0.length + 1) cap6)
    have tab7 := Htab.out.set_ 1 (.slice A6 (L0.length + 1) cap6)
    have row7 : RowAtS (w6.setCell ⟨g, 1, none⟩ (.slice A6 (L0.length + 1) cap6)) base 102 1 (.slice A6 (L0.length + 1) cap6) (L0.length + 1) (L0.map RIt.ptr ++ [.pointer (some ⟨w4.heap.size, 0, none⟩)]) :=
      Hr6.out.same fun k hk => hgs.block k (Hr6.out.lt hk).2 (fun e => by injection e with e; subst e; exact Hr6.out.ne Htab.out (by decide) hk)
    have its7 : ∀ y ∈ L0, RItAt (w6.setCell ⟨g, 1, none⟩ (.slice A6 (L0.length + 1) cap6)) base clock y F0 := fun y hy => ((K6.out.it y hy).rowed K6.out.row Hg6.out (by decide)).other (frame_one hgs) (rblk_types Htab.out (by decide))
    have hwn : ∀ k, F0 k → k ≠ w4.heap.size := fun k hk e => by have := (K.out.flt k hk).2; omega
    have xn7 : Blk (w6.setCell ⟨g, 1, none⟩ (.slice A6 (L0.length + 1) cap6)) w4.heap.size 101 (rwCells (⟨src, dst, proto, id, off, more, whole, ttl, body⟩ : Pk) (.slice A n cap) (clock - 0) (.slice none 0 0)) :=
      ((HX5.out.alloc (.cells #[.pointer (some ⟨w4.heap.size, 0, none⟩)] 102)).grown Hg6.out (fun e => hwn _ (K.out.fr _ e.symm) rfl)).far (fun e => hwn _ K.out.fg e.symm) _
    have fr7 : Frame F0 w4 (w6.setCell ⟨g, 1, none⟩ (.slice A6 (L0.length + 1) cap6)) := (((Below.frameF Hb5.out F0).trans (Below.frameF HLB.out F0) (fun _ _ h => h)).trans (frame_grown Hg6.out (F := F0) (fun k hk => K.out.fr k hk)) (fun _ _ h => h)).trans (frame_grown hgs (F := F0) (fun k hk => by injection hk with hk; subst hk; exact K.out.fg)) (fun _ _ h => h)
    have hsz7 : w4.heap.size + 2 ≤ (w6.setCell ⟨g, 1, none⟩ (.slice A6 (L0.length + 1) cap6)).heap.size := by have h1 := hgs.size; have h2 := Hg6.out.size; have h3 := Hs5.out; simp only [World.size_alloc] at h2; omega
    have hv7 : ∀ k, (Value.slice A6 (L0.length + 1) cap6).ownBlock = some k → F0 k ∨ k = w4.heap.size + 2 := fun k hk => by
      rcases Hv6.out with q | q
      · exact .inl (K.out.fr k (by rw [← q]; exact hk))
      · rw [q] at hk
        injection hk with hk
        simp only [World.size_alloc, Hs5.out] at hk
        exact .inr hk.symm
    have hFw : ∀ k, F0 k → F k ∨ w.heap.size + 2 ≤ k := fun k hk => by
      rcases HF0.out k hk with q | q
      · exact .inl q
      · exact .inr (Nat.le_trans Hs2.out q)
    have hnb : ∀ k, k < w.heap.size + 2 → w.heap.size ≤ k → ¬ F0 k := fun k h1 h2 q => by
      rcases hFw k q with q | q
      · have := HFb.out k q; omega
      · omega
    have hbp7 := fr7.blk Hbp4.out (hnb _ (by omega) (by omega))
    have hbr7 := fr7.blk Hbr4.out (hnb _ (by omega) (by omega))
    have FRw : Frame F w (w6.setCell ⟨g, 1, none⟩ (.slice A6 (L0.length + 1) cap6)) := ((Below.frameF Hb02.out F).trans Hfr.out (fun i _ q => by rw [q]; exact HAt.out.fg)).trans fr7 (fun i hi q => by
      rcases hFw i q with q | q
      · exact q
      · omega)
    have Hcut := hid (show RAddAt w (w6.setCell ⟨g, 1, none⟩ (.slice A6 (L0.length + 1) cap6)) base g clock (L.map RIt.w) m F (⟨src, dst, proto, id, off, more, whole, ttl, body⟩ : Pk) (.slice A n cap) (.pointer (some ⟨w4.heap.size, 0, none⟩)) from by
      have hgw : ∀ y ∈ L0, y.g ≠ w4.heap.size := fun y hy e => by have := (K.out.it y hy).blk.lt; omega
      refine ⟨(⟨⟨⟨src, dst, proto, id⟩, [], -1, 0⟩, w4.heap.size, (⟨src, dst, proto, id, off, more, whole, ttl, body⟩ : Pk), .slice A n cap, .slice none 0 0, []⟩ : RIt), L0 ++ [(⟨⟨⟨src, dst, proto, id⟩, [], -1, 0⟩, w4.heap.size, (⟨src, dst, proto, id, off, more, whole, ttl, body⟩ : Pk), .slice A n cap, .slice none 0 0, []⟩ : RIt)], .slice A6 (L0.length + 1) cap6, fun k => F0 k ∨ k = w4.heap.size ∨ (Value.slice A6 (L0.length + 1) cap6).ownBlock = some k, rfl, by simp, Hpf.out.symm, ?_, ?_, FRw, ?_, hbp7, hbr7, bs_frame HBs.out FRw HvF.out, pBeside_new _⟩
      · refine ⟨tab7, ?_, ?_, ?_, ⟨?_, ?_, ?_⟩, ?_, .inl K.out.fg, ?_, ?_⟩
        · have : (L0 ++ [(⟨⟨⟨src, dst, proto, id⟩, [], -1, 0⟩, w4.heap.size, (⟨src, dst, proto, id, off, more, whole, ttl, body⟩ : Pk), .slice A n cap, .slice none 0 0, []⟩ : RIt)]).length = L0.length + 1 := by simp
          rw [this, List.map_append]
          exact row7
        · intro y hy
          rcases List.mem_append.1 hy with hy | hy
          · exact (its7 y hy).weaken (fun k hk => .inl hk)
          · simp at hy
            subst hy
            exact ⟨xn7, ⟨A, n, cap, rfl⟩, rfl, RowAtS.nil _ _ _ _, fun q hq => (by cases hq), rfl, .inr (.inl rfl), fun k hk => (by simp [Value.ownBlock] at hk), fun q hq => (by cases hq)⟩
        · rw [List.pairwise_append]
          refine ⟨K.out.apart, List.pairwise_singleton _ _, fun y hy z hz => ?_⟩
          simp at hz
          subst hz
          exact ⟨hgw y hy, fun k _ => by simp [Value.ownBlock]⟩
        · intro y hy
          obtain ⟨z, hz, rfl⟩ := List.mem_map.1 hy
          rcases List.mem_append.1 hz with hz | hz
          · exact K.out.ok.it _ (List.mem_map_of_mem hz)
          · simp at hz
            subst hz
            exact wt_new _ Hkey.out
        · rw [List.map_append, List.map_append, List.nodup_append]
          refine ⟨K.out.ok.keys, by simp, fun a ha b hb => ?_⟩
          simp at hb
          subst hb
          obtain ⟨z, hz, rfl⟩ := List.mem_map.1 ha
          obtain ⟨y, hy, rfl⟩ := List.mem_map.1 hz
          exact Hno0.out y hy
        · rw [List.length_map, List.length_append]
          simp
          omega
        · intro y hy
          rcases List.mem_append.1 hy with hy | hy
          · exact Nat.le_succ_of_le (K.out.few y hy)
          · simp at hy
            subst hy
            exact Nat.zero_le _
        · exact fun k hk => .inr (.inr hk)
        · intro k hk
          have hbg := K.out.flt _ K.out.fg
          rcases hk with hk | rfl | hk
          · have := K.out.flt k hk; omega
          · omega
          · have := row7.lt hk; omega
      · intro y hy
        rcases List.mem_append.1 hy with hy | hy
        · exact K.out.few y hy
        · simp at hy
          subst hy
          exact Nat.zero_le _
      · intro k hk
        have := Hs4.out
        rcases hk with hk | rfl | hk
        · exact hFw k hk
        · exact .inr this
        · rcases hv7 k hk with q | q
          · exact hFw k q
          · exact .inr (by omega))
    clear hgs tab7 row7 its7 hwn xn7 fr7 hsz7 hv7 hFw hnb hbp7 hbr7 FRw t1 z1 g1 g1a hL0l
    clear Hr6 Htab Hg6 Hv6 K6 K5 HLB Hbase HX5 Hb5 Hs5 Hbp4 Hbr4 Hs4 K Hfr HF0 Hno0 Hpf Hno hlL hcR2'
    generalize Value.pointer (some ⟨w4.heap.size, 0, none⟩) = s6 at *
    generalize w6.setCell ⟨g, 1, none⟩ (.slice A6 (L0.length + 1) cap6) = wt at *
    clear K2 Hb02 HB2 Hs2 Hbp2 Hbr2 KA HBw Hb0 Hb2 Ho Hwsz Hblkp Hblkr
    obtain ⟨x, L1, vr1, F1, rfl, hx, hpf, KT, hfew, hfr, hF1, hpc, hrc, hbs, hbe⟩ := Hcut.out
    clear Hcut
    rw [show ptrV (some x.g) = .pointer (some ⟨x.g, 0, none⟩) from rfl]
    have hfs := sndL_find HSnd.out (Pk.key (⟨src, dst, proto, id, off, more, whole, ttl, body⟩ : Pk)) Hkey.out
    rw [← hpf] at hfs
    have Hok2 := hid (snd_more hfs.2.1 Hwr.out Hw0.out (by rw [hbe]; decide) (by rw [hbe]; decide))
    have Hp := hid (show pAdd (L.map RIt.w) (⟨src, dst, proto, id, off, more, whole, ttl, body⟩ : Pk) = if (pWhole (pMore x.w (⟨src, dst, proto, id, off, more, whole, ttl, body⟩ : Pk)).k (pMore x.w (⟨src, dst, proto, id, off, more, whole, ttl, body⟩ : Pk)).parts (pMore x.w (⟨src, dst, proto, id, off, more, whole, ttl, body⟩ : Pk)).fin).2 then (pLose (pSet (L1.map RIt.w) (pMore x.w (⟨src, dst, proto, id, off, more, whole, ttl, body⟩ : Pk))) (Pk.key (⟨src, dst, proto, id, off, more, whole, ttl, body⟩ : Pk)), (pWhole (pMore x.w (⟨src, dst, proto, id, off, more, whole, ttl, body⟩ : Pk)).k (pMore x.w (⟨src, dst, proto, id, off, more, whole, ttl, body⟩ : Pk)).parts (pMore x.w (⟨src, dst, proto, id, off, more, whole, ttl, body⟩ : Pk)).fin).1, 0) else (pSet (L1.map RIt.w) (pMore x.w (⟨src, dst, proto, id, off, more, whole, ttl, body⟩ : Pk)), pkZero, 19) by
      unfold pAdd
      rw [if_neg Hw0.out, Hwr.out, if_neg (by simp), ← hpf]
      simp only [hbe]
      rw [if_neg (by decide), if_neg (by decide)])
    have Hxk := hid (show x.w.k = Pk.key (⟨src, dst, proto, id, off, more, whole, ttl, body⟩ : Pk) from pFind_key hpf)
    have hxi := KT.it x hx
    obtain ⟨n2, hn2⟩ : ∃ z, x.qs.length = z := ⟨_, rfl⟩
    have Hn2 := hid hn2
    have hnm : n2 ≤ m := by rw [← hn2]; exact hfew x hx
    have hrow := hxi.row
    rw [hn2] at hrow
    obtain ⟨wh, hwh⟩ : ∃ b, (decide (off = 0) && !more) = b := ⟨_, rfl⟩
    have HT := hid (show ∀ wx, Below wt.heap.size wt wx → Calls Try.prog 32 #[.agg #[.int .u32 (src : Int), .int .u32 (dst : Int), .int .i64 proto, .int .i64 id, .int .i64 off, .bool more, .bool whole, .int .i64 ttl, .slice A n cap], .int .i64 off, .slice A n cap, .bool more] wx fun e w' => ∃ A1 c1, e = .returned (.agg #[.int .u32 (src : Int), .int .u32 (dst : Int), .int .i64 proto, .int .i64 id, .int .i64 off, .bool more, .bool wh, .int .i64 ttl, .slice A1 n c1]) ∧ OwnBs w' wt.heap.size 5 (.slice A1 n c1) body ∧ Below wt.heap.size wt w' from fun wx hb => by
      have := rtwin_any (.slice A n cap) (⟨src, dst, proto, id, off, more, whole, ttl, body⟩ : Pk) off (.slice A n cap) body more wx (hbs.below hb) (hbs.below hb) (by rw [Hn.out]; exact hl)
      refine this.mono ?_
      rintro e w' ⟨v', rfl, ho, hb'⟩
      obtain ⟨A1, c1, rfl⟩ := slice_len ho.bs Hn.out
      refine ⟨A1, c1, ?_, ho.mono hb.size, hb.trans (hb'.mono hb.size)⟩
      rw [← hwh]
      rfl)
    have c10 : wt.cell? ⟨x.g, 10, none⟩ = some x.pv := hxi.blk.cell 10
    have Hx := hid hx
    have Hxi := hid hxi
    have Hrow := hid hrow
    have Hpc := hid hpc
    have Hrc := hid hrc
    have Hfew := hid hfew
    have Hfr := hid hfr
    have HF1 := hid hF1
    have Hwh := hid hwh
    have KT := hid KT
    have HGP := hid (show w.heap.size ≠ x.g from fun e => by
      rcases hF1 _ hxi.fg with q | q
      · have := HFb.out _ q; omega
      · omega)
    have HF1r := hid (show ∀ k, F1 k → k ≠ w.heap.size ∧ k ≠ w.heap.size + 1 from fun k hk => by
      rcases hF1 k hk with q | q
      · have := HFb.out k q; omega
      · omega)
    clear hx hpf hfew hfr hF1 hpc hrc hbs hbe hfs hxi hn2 hrow hwh
    go_cut [] from 120 to 136 (fun wx => ∃ A1 c1 pv2, Blk wx x.g 101 (rwCells x.kp x.kv (clock - x.w.age) pv2) ∧ RowAtS wx base 35 9 pv2 (n2 + 1) (pkRow x.qs ++ [.int .u32 (src : Int), .int .u32 (dst : Int), .int .i64 proto, .int .i64 id, .int .i64 off, .bool more, .bool wh, .int .i64 ttl, .slice A1 n c1]) ∧ OwnBs wx wt.heap.size 5 (.slice A1 n c1) body ∧ Frame (fun k => k = x.g ∨ x.pv.ownBlock = some k) wt wx ∧ ∀ k, pv2.ownBlock = some k → x.pv.ownBlock = some k ∨ wt.heap.size ≤ k)
    case first =>
      refine wp_region_held_drew (S := fun wy => Blk wy w.heap.size 35 [.int .u32 (src : Int), .int .u32 (dst : Int), .int .i64 proto, .int .i64 id, .int .i64 off, .bool more, .bool whole, .int .i64 ttl, .slice A n cap]) (by kernel_rfl) (by first | exact Hpc.out.drew | exact P4.out | exact P4.out.alloc _ | exact P6.out | exact P6.out.far HGP.out _) (fun _ => ?_)
      (refine wpAnyH_take (i := 0) (v := .pointer (some ⟨x.g, 0, none⟩)) rfl (by kernel_rfl) (by kernel_rfl) (by kernel_rfl) (fun _ _ _ h => h) (Or.inl ⟨by rfl, by intro wq hSw; skip; go_simp⟩) (by first | exact Hpc.out.drew | exact P4.out | exact P4.out.alloc _ | exact P6.out | exact P6.out.far HGP.out _) ?_; (try simp only [Act.put, List.setIfInBounds_toArray, List.set_cons_zero, List.set_cons_succ]))
      (refine wpAnyH_take (i := 1) (v := .pointer (some ⟨x.g, 0, none⟩)) rfl (by kernel_rfl) (by kernel_rfl) (by kernel_rfl) (fun _ _ _ h => h) (Or.inl ⟨by rfl, by intro wq hSw; skip; go_simp⟩) (by first | exact Hpc.out.drew | exact P4.out | exact P4.out.alloc _ | exact P6.out | exact P6.out.far HGP.out _) ?_; (try simp only [Act.put, List.setIfInBounds_toArray, List.set_cons_zero, List.set_cons_succ]))
      (refine wpAnyH_take (i := 2) (v := .pointer (some ⟨x.g, 0, none⟩)) rfl (by kernel_rfl) (by kernel_rfl) (by kernel_rfl) (fun _ _ _ h => h) (Or.inl ⟨by rfl, by intro wq hSw; skip; go_simp⟩) (by first | exact Hpc.out.drew | exact P4.out | exact P4.out.alloc _ | exact P6.out | exact P6.out.far HGP.out _) ?_; (try simp only [Act.put, List.setIfInBounds_toArray, List.set_cons_zero, List.set_cons_succ]))
      (refine wpAnyH_take (i := 3) (v := .pointer (some ⟨x.g, 10, none⟩)) rfl (by kernel_rfl) (by kernel_rfl) (by kernel_rfl) (fun _ _ _ h => h) (Or.inl ⟨by rfl, by intro wq hSw; skip; go_simp⟩) (by first | exact Hpc.out.drew | exact P4.out | exact P4.out.alloc _ | exact P6.out | exact P6.out.far HGP.out _) ?_; (try simp only [Act.put, List.setIfInBounds_toArray, List.set_cons_zero, List.set_cons_succ]))
      (refine wpAnyH_take (i := 5) (v := .agg #[.int .u32 (src : Int), .int .u32 (dst : Int), .int .i64 proto, .int .i64 id, .int .i64 off, .bool more, .bool whole, .int .i64 ttl, .slice A n cap]) rfl (by kernel_rfl) (by kernel_rfl) (by kernel_rfl) (fun _ _ _ h => h) (Or.inl ⟨by rfl, by intro wq hSw; have c0 := hSw.cell 0; have c1 := hSw.cell 1; have c2 := hSw.cell 2; have c3 := hSw.cell 3; have c4 := hSw.cell 4; have c5 := hSw.cell 5; have c6 := hSw.cell 6; have c7 := hSw.cell 7; have c8 := hSw.cell 8; go_simp⟩) (by first | exact Hpc.out.drew | exact P4.out | exact P4.out.alloc _ | exact P6.out | exact P6.out.far HGP.out _) ?_; (try simp only [Act.put, List.setIfInBounds_toArray, List.set_cons_zero, List.set_cons_succ]))
      (refine wpAnyH_take (i := 6) (v := .pointer (some ⟨w.heap.size, 4, none⟩)) rfl (by kernel_rfl) (by kernel_rfl) (by kernel_rfl) (fun _ _ _ h => h) (Or.inl ⟨by rfl, by intro wq hSw; skip; go_simp⟩) (by first | exact Hpc.out.drew | exact P4.out | exact P4.out.alloc _ | exact P6.out | exact P6.out.far HGP.out _) ?_; (try simp only [Act.put, List.setIfInBounds_toArray, List.set_cons_zero, List.set_cons_succ]))
      (refine wpAnyH_take (i := 7) (v := .int .i64 off) rfl (by kernel_rfl) (by kernel_rfl) (by kernel_rfl) (fun _ _ _ h => h) (Or.inl ⟨by rfl, by intro wq hSw; have c4 := hSw.cell 4; go_simp⟩) (by first | exact Hpc.out.drew | exact P4.out | exact P4.out.alloc _ | exact P6.out | exact P6.out.far HGP.out _) ?_; (try simp only [Act.put, List.setIfInBounds_toArray, List.set_cons_zero, List.set_cons_succ]))
      (refine wpAnyH_take (i := 8) (v := .pointer (some ⟨w.heap.size, 8, none⟩)) rfl (by kernel_rfl) (by kernel_rfl) (by kernel_rfl) (fun _ _ _ h => h) (Or.inl ⟨by rfl, by intro wq hSw; skip; go_simp⟩) (by first | exact Hpc.out.drew | exact P4.out | exact P4.out.alloc _ | exact P6.out | exact P6.out.far HGP.out _) ?_; (try simp only [Act.put, List.setIfInBounds_toArray, List.set_cons_zero, List.set_cons_succ]))
      (refine wpAnyH_take (i := 9) (v := .slice A n cap) rfl (by kernel_rfl) (by kernel_rfl) (by kernel_rfl) (fun _ _ _ h => h) (Or.inl ⟨by rfl, by intro wq hSw; have c4 := hSw.cell 8; go_simp⟩) (by first | exact Hpc.out.drew | exact P4.out | exact P4.out.alloc _ | exact P6.out | exact P6.out.far HGP.out _) ?_; (try simp only [Act.put, List.setIfInBounds_toArray, List.set_cons_zero, List.set_cons_succ]))
      (refine wpAnyH_take (i := 10) (v := .pointer (some ⟨w.heap.size, 5, none⟩)) rfl (by kernel_rfl) (by kernel_rfl) (by kernel_rfl) (fun _ _ _ h => h) (Or.inl ⟨by rfl, by intro wq hSw; skip; go_simp⟩) (by first | exact Hpc.out.drew | exact P4.out | exact P4.out.alloc _ | exact P6.out | exact P6.out.far HGP.out _) ?_; (try simp only [Act.put, List.setIfInBounds_toArray, List.set_cons_zero, List.set_cons_succ]))
      (refine wpAnyH_take (i := 11) (v := .bool more) rfl (by kernel_rfl) (by kernel_rfl) (by kernel_rfl) (fun _ _ _ h => h) (Or.inl ⟨by rfl, by intro wq hSw; have c4 := hSw.cell 5; go_simp⟩) (by first | exact Hpc.out.drew | exact P4.out | exact P4.out.alloc _ | exact P6.out | exact P6.out.far HGP.out _) ?_; (try simp only [Act.put, List.setIfInBounds_toArray, List.set_cons_zero, List.set_cons_succ]))
      (refine wpAnyH_ready (rs := [4, 12]) (by kernel_rfl) (by simp) ?_; refine (AllReadyH.cons rfl (fun K hK => ?_) (AllReadyH.cons rfl (fun K hK => ?_) AllReadyH.nil)))
      · go_simp
        (refine hK.out _ _ (by first | exact Hpc.out.drew | exact P4.out | exact P4.out.alloc _ | exact P6.out | exact P6.out.far HGP.out _) (fun _ => ?_); clear hK K; (try simp only [Act.put, List.setIfInBounds_toArray, List.set_cons_zero, List.set_cons_succ]))
        (refine wpAnyH_ready (rs := [12]) (by kernel_rfl) (by simp) ?_; refine (AllReadyH.cons rfl (fun K hK => ?_) AllReadyH.nil))
        (go_simp; go_at_call 32; refine (HT.out _ (below_drew wt)).mono ?_; rintro e w4 ⟨A1, c1, rfl, hown, hb4⟩; have P4 := hid (Hpc.out.keep hb4); have Hb4 := hid hb4; have Hown4 := hid hown; have c10b : w4.cell? ⟨x.g, 10, none⟩ = some x.pv := (Hxi.out.keep hb4).blk.cell 10; have c10c := cell_below (below_alloc w4 (.cells #[.int .u32 (src : Int), .int .u32 (dst : Int), .int .i64 proto, .int .i64 id, .int .i64 off, .bool more, .bool wh, .int .i64 ttl, .slice A1 n c1] 35)) c10b; clear hown hb4)
        (refine hK.out _ _ (by first | exact Hpc.out.drew | exact P4.out | exact P4.out.alloc _ | exact P6.out | exact P6.out.far HGP.out _) (fun _ => ?_); clear hK K; (try simp only [Act.put, List.setIfInBounds_toArray, List.set_cons_zero, List.set_cons_succ]))
        (refine wpAnyH_ready (rs := [13]) (by kernel_rfl) (by simp) ?_; refine (AllReadyH.cons rfl (fun K hK => ?_) AllReadyH.nil))
        go_simp
        (refine hK.out _ _ (by first | exact Hpc.out.drew | exact P4.out | exact P4.out.alloc _ | exact P6.out | exact P6.out.far HGP.out _) (fun _ => ?_); clear hK K; (try simp only [Act.put, List.setIfInBounds_toArray, List.set_cons_zero, List.set_cons_succ]))
        (refine wpAnyH_ready (rs := [14]) (by kernel_rfl) (by simp) ?_; refine (AllReadyH.cons rfl (fun K hK => ?_) AllReadyH.nil))
        (refine step_app_atS _ (by rfl) _ _ 32 (by rfl) base 35 rpkz 9 72 rpkk x.pv n2 (pkRow x.qs) (by rfl) (Hrow.out.keep (below_alloc' Hb4.out _)) (.slice (some ⟨w4.heap.size, 0, none⟩) 1 1) 1 [.int .u32 (src : Int), .int .u32 (dst : Int), .int .i64 proto, .int .i64 id, .int .i64 off, .bool more, .bool wh, .int .i64 ttl, .slice A1 n c1] (by rfl) (rowS_lit 9 #[.int .u32 (src : Int), .int .u32 (dst : Int), .int .i64 proto, .int .i64 id, .int .i64 off, .bool more, .bool wh, .int .i64 ttl, .slice A1 n c1] 1 _ rfl rfl (by simp [maxLen])) (by simp [Value.oneCell']) (by decide) (by omega) (by simp only [maxLen]; omega) (Nat.le_trans KT.out.zone (below_alloc' Hb4.out _).size) ?_; intro v6 w6 hr6 hg6 hv6; have hwy : Below wt.heap.size wt (w4.alloc (.cells #[.int .u32 (src : Int), .int .u32 (dst : Int), .int .i64 proto, .int .i64 id, .int .i64 off, .bool more, .bool wh, .int .i64 ttl, .slice A1 n c1] 35)) := below_alloc' Hb4.out _; obtain ⟨A6, cap6, rfl⟩ : ∃ A c, v6 = .slice A (n2 + 1) c := (by obtain ⟨_, A, c, h, _⟩ := hr6.rowN; exact ⟨A, c, h⟩); have hb6 := (Hxi.out.blk.keep hwy).grown hg6 (fun e => (Hxi.out.row.keep hwy).ne (Hxi.out.blk.keep hwy) (by decide) e.symm); have P6 := hid ((Hpc.out.keep hwy).grown hg6 (fun e => (HF1r.out _ (Hxi.out.fp _ e.symm)).1 rfl)); have Hr6 := hid hr6; have Hf6 := hid ((Below.frameF (below_alloc w4 (.cells #[.int .u32 (src : Int), .int .u32 (dst : Int), .int .i64 proto, .int .i64 id, .int .i64 off, .bool more, .bool wh, .int .i64 ttl, .slice A1 n c1] 35)) (fun k => k = x.g ∨ x.pv.ownBlock = some k)).trans (frame_grown hg6 (F := fun k => k = x.g ∨ x.pv.ownBlock = some k) (fun k hk => .inr hk)) (fun _ _ h => h)); have Hv6 := hid (show ∀ k, (Value.slice A6 (n2 + 1) cap6).ownBlock = some k → x.pv.ownBlock = some k ∨ wt.heap.size ≤ k from fun k hk => (by rcases hv6 with q | q; exact .inl (by rw [← q]; exact hk); rw [q] at hk; injection hk with hk; have := hwy.size; exact .inr (by omega))); have e10 : w6.cell? ⟨x.g, 10, none⟩ = some x.pv := hb6.cell 10; have z10 := hb6.frozen 10; have Hb6 := hid hb6; clear hwy hr6 hg6 hv6 hb6)
        (refine hK.out _ _ (by first | exact Hpc.out.drew | exact P4.out | exact P4.out.alloc _ | exact P6.out | exact P6.out.far HGP.out _) (fun _ => ?_); clear hK K; (try simp only [Act.put, List.setIfInBounds_toArray, List.set_cons_zero, List.set_cons_succ]))
        (refine wpAnyH_ready (rs := [15]) (by kernel_rfl) (by simp) ?_; refine (AllReadyH.cons rfl (fun K hK => ?_) AllReadyH.nil))
        go_simp
        (refine hK.out _ _ (by first | exact Hpc.out.drew | exact P4.out | exact P4.out.alloc _ | exact P6.out | exact P6.out.far HGP.out _) (fun _ => ?_); clear hK K; (try simp only [Act.put, List.setIfInBounds_toArray, List.set_cons_zero, List.set_cons_succ]))
        (refine wpAnyH_ready (rs := [16]) (by kernel_rfl) (by simp) ?_; refine (AllReadyH.cons rfl (fun K hK => ?_) AllReadyH.nil))
        go_simp
        (refine hK.out _ _ (by first | exact Hpc.out.drew | exact P4.out | exact P4.out.alloc _ | exact P6.out | exact P6.out.far HGP.out _) (fun _ => ?_); clear hK K; (try simp only [Act.put, List.setIfInBounds_toArray, List.set_cons_zero, List.set_cons_succ]))
        (refine wpAnyH_ready (rs := [17]) (by kernel_rfl) (by simp) ?_; refine (AllReadyH.cons rfl (fun K hK => ?_) AllReadyH.nil))
        go_simp
        (refine hK.out _ _ (by first | exact Hpc.out.drew | exact P4.out | exact P4.out.alloc _ | exact P6.out | exact P6.out.far HGP.out _) (fun _ => ?_); clear hK K; (try simp only [Act.put, List.setIfInBounds_toArray, List.set_cons_zero, List.set_cons_succ]))
        refine wpAnyH_done (by kernel_rfl) ?_ _
        go_wp2_with fail
        go_meet
        case rel =>
          have hgs := grown_set w6 x.g 10 (.slice A6 (n2 + 1) cap6)
          have hf7 := Hf6.out.trans (frame_grown hgs (F := fun k => k = x.g ∨ x.pv.ownBlock = some k) (fun k hk => .inl (by injection hk with hk; exact hk.symm))) (fun _ _ h => h)
          refine ⟨A1, c1, .slice A6 (n2 + 1) cap6, Hb6.out.set_ 10 _, Hr6.out.same (fun k hk => hgs.block k (Hr6.out.lt hk).2 (fun e => ?_)), hf7.own Hown4.out (fun k hk q => ?_), (Below.frameF Hb4.out (fun k => k = x.g ∨ x.pv.ownBlock = some k)).trans hf7 (fun _ _ h => h), Hv6.out⟩
          · injection e with e
            subst e
            exact Hr6.out.ne Hb6.out (by decide) hk
          · have h1 := (own_at Hown4.out hk).1
            rcases q with q | q
            · have := Hxi.out.blk.lt; omega
            · have := (Hxi.out.row.lt q).2; omega
      · (go_simp; go_at_call 32; refine (HT.out _ (below_drew wt)).mono ?_; rintro e w4 ⟨A1, c1, rfl, hown, hb4⟩; have P4 := hid (Hpc.out.keep hb4); have Hb4 := hid hb4; have Hown4 := hid hown; have c10b : w4.cell? ⟨x.g, 10, none⟩ = some x.pv := (Hxi.out.keep hb4).blk.cell 10; have c10c := cell_below (below_alloc w4 (.cells #[.int .u32 (src : Int), .int .u32 (dst : Int), .int .i64 proto, .int .i64 id, .int .i64 off, .bool more, .bool wh, .int .i64 ttl, .slice A1 n c1] 35)) c10b; clear hown hb4)
        (refine hK.out _ _ (by first | exact Hpc.out.drew | exact P4.out | exact P4.out.alloc _ | exact P6.out | exact P6.out.far HGP.out _) (fun _ => ?_); clear hK K; (try simp only [Act.put, List.setIfInBounds_toArray, List.set_cons_zero, List.set_cons_succ]))
        (refine wpAnyH_ready (rs := [4, 13]) (by kernel_rfl) (by simp) ?_; refine (AllReadyH.cons rfl (fun K hK => ?_) (AllReadyH.cons rfl (fun K hK => ?_) AllReadyH.nil)))
        · go_simp
          (refine hK.out _ _ (by first | exact Hpc.out.drew | exact P4.out | exact P4.out.alloc _ | exact P6.out | exact P6.out.far HGP.out _) (fun _ => ?_); clear hK K; (try simp only [Act.put, List.setIfInBounds_toArray, List.set_cons_zero, List.set_cons_succ]))
          (refine wpAnyH_ready (rs := [13]) (by kernel_rfl) (by simp) ?_; refine (AllReadyH.cons rfl (fun K hK => ?_) AllReadyH.nil))
          go_simp
          (refine hK.out _ _ (by first | exact Hpc.out.drew | exact P4.out | exact P4.out.alloc _ | exact P6.out | exact P6.out.far HGP.out _) (fun _ => ?_); clear hK K; (try simp only [Act.put, List.setIfInBounds_toArray, List.set_cons_zero, List.set_cons_succ]))
          (refine wpAnyH_ready (rs := [14]) (by kernel_rfl) (by simp) ?_; refine (AllReadyH.cons rfl (fun K hK => ?_) AllReadyH.nil))
          (refine step_app_atS _ (by rfl) _ _ 32 (by rfl) base 35 rpkz 9 72 rpkk x.pv n2 (pkRow x.qs) (by rfl) (Hrow.out.keep (below_alloc' Hb4.out _)) (.slice (some ⟨w4.heap.size, 0, none⟩) 1 1) 1 [.int .u32 (src : Int), .int .u32 (dst : Int), .int .i64 proto, .int .i64 id, .int .i64 off, .bool more, .bool wh, .int .i64 ttl, .slice A1 n c1] (by rfl) (rowS_lit 9 #[.int .u32 (src : Int), .int .u32 (dst : Int), .int .i64 proto, .int .i64 id, .int .i64 off, .bool more, .bool wh, .int .i64 ttl, .slice A1 n c1] 1 _ rfl rfl (by simp [maxLen])) (by simp [Value.oneCell']) (by decide) (by omega) (by simp only [maxLen]; omega) (Nat.le_trans KT.out.zone (below_alloc' Hb4.out _).size) ?_; intro v6 w6 hr6 hg6 hv6; have hwy : Below wt.heap.size wt (w4.alloc (.cells #[.int .u32 (src : Int), .int .u32 (dst : Int), .int .i64 proto, .int .i64 id, .int .i64 off, .bool more, .bool wh, .int .i64 ttl, .slice A1 n c1] 35)) := below_alloc' Hb4.out _; obtain ⟨A6, cap6, rfl⟩ : ∃ A c, v6 = .slice A (n2 + 1) c := (by obtain ⟨_, A, c, h, _⟩ := hr6.rowN; exact ⟨A, c, h⟩); have hb6 := (Hxi.out.blk.keep hwy).grown hg6 (fun e => (Hxi.out.row.keep hwy).ne (Hxi.out.blk.keep hwy) (by decide) e.symm); have P6 := hid ((Hpc.out.keep hwy).grown hg6 (fun e => (HF1r.out _ (Hxi.out.fp _ e.symm)).1 rfl)); have Hr6 := hid hr6; have Hf6 := hid ((Below.frameF (below_alloc w4 (.cells #[.int .u32 (src : Int), .int .u32 (dst : Int), .int .i64 proto, .int .i64 id, .int .i64 off, .bool more, .bool wh, .int .i64 ttl, .slice A1 n c1] 35)) (fun k => k = x.g ∨ x.pv.ownBlock = some k)).trans (frame_grown hg6 (F := fun k => k = x.g ∨ x.pv.ownBlock = some k) (fun k hk => .inr hk)) (fun _ _ h => h)); have Hv6 := hid (show ∀ k, (Value.slice A6 (n2 + 1) cap6).ownBlock = some k → x.pv.ownBlock = some k ∨ wt.heap.size ≤ k from fun k hk => (by rcases hv6 with q | q; exact .inl (by rw [← q]; exact hk); rw [q] at hk; injection hk with hk; have := hwy.size; exact .inr (by omega))); have e10 : w6.cell? ⟨x.g, 10, none⟩ = some x.pv := hb6.cell 10; have z10 := hb6.frozen 10; have Hb6 := hid hb6; clear hwy hr6 hg6 hv6 hb6)
          (refine hK.out _ _ (by first | exact Hpc.out.drew | exact P4.out | exact P4.out.alloc _ | exact P6.out | exact P6.out.far HGP.out _) (fun _ => ?_); clear hK K; (try simp only [Act.put, List.setIfInBounds_toArray, List.set_cons_zero, List.set_cons_succ]))
          (refine wpAnyH_ready (rs := [15]) (by kernel_rfl) (by simp) ?_; refine (AllReadyH.cons rfl (fun K hK => ?_) AllReadyH.nil))
          go_simp
          (refine hK.out _ _ (by first | exact Hpc.out.drew | exact P4.out | exact P4.out.alloc _ | exact P6.out | exact P6.out.far HGP.out _) (fun _ => ?_); clear hK K; (try simp only [Act.put, List.setIfInBounds_toArray, List.set_cons_zero, List.set_cons_succ]))
          (refine wpAnyH_ready (rs := [16]) (by kernel_rfl) (by simp) ?_; refine (AllReadyH.cons rfl (fun K hK => ?_) AllReadyH.nil))
          go_simp
          (refine hK.out _ _ (by first | exact Hpc.out.drew | exact P4.out | exact P4.out.alloc _ | exact P6.out | exact P6.out.far HGP.out _) (fun _ => ?_); clear hK K; (try simp only [Act.put, List.setIfInBounds_toArray, List.set_cons_zero, List.set_cons_succ]))
          (refine wpAnyH_ready (rs := [17]) (by kernel_rfl) (by simp) ?_; refine (AllReadyH.cons rfl (fun K hK => ?_) AllReadyH.nil))
          go_simp
          (refine hK.out _ _ (by first | exact Hpc.out.drew | exact P4.out | exact P4.out.alloc _ | exact P6.out | exact P6.out.far HGP.out _) (fun _ => ?_); clear hK K; (try simp only [Act.put, List.setIfInBounds_toArray, List.set_cons_zero, List.set_cons_succ]))
          refine wpAnyH_done (by kernel_rfl) ?_ _
          go_wp2_with fail
          go_meet
          case rel =>
            have hgs := grown_set w6 x.g 10 (.slice A6 (n2 + 1) cap6)
            have hf7 := Hf6.out.trans (frame_grown hgs (F := fun k => k = x.g ∨ x.pv.ownBlock = some k) (fun k hk => .inl (by injection hk with hk; exact hk.symm))) (fun _ _ h => h)
            refine ⟨A1, c1, .slice A6 (n2 + 1) cap6, Hb6.out.set_ 10 _, Hr6.out.same (fun k hk => hgs.block k (Hr6.out.lt hk).2 (fun e => ?_)), hf7.own Hown4.out (fun k hk q => ?_), (Below.frameF Hb4.out (fun k => k = x.g ∨ x.pv.ownBlock = some k)).trans hf7 (fun _ _ h => h), Hv6.out⟩
            · injection e with e
              subst e
              exact Hr6.out.ne Hb6.out (by decide) hk
            · have h1 := (own_at Hown4.out hk).1
              rcases q with q | q
              · have := Hxi.out.blk.lt; omega
              · have := (Hxi.out.row.lt q).2; omega
        · go_simp
          (refine hK.out _ _ (by first | exact Hpc.out.drew | exact P4.out | exact P4.out.alloc _ | exact P6.out | exact P6.out.far HGP.out _) (fun _ => ?_); clear hK K; (try simp only [Act.put, List.setIfInBounds_toArray, List.set_cons_zero, List.set_cons_succ]))
          (refine wpAnyH_ready (rs := [4]) (by kernel_rfl) (by simp) ?_; refine (AllReadyH.cons rfl (fun K hK => ?_) AllReadyH.nil))
          go_simp
          (refine hK.out _ _ (by first | exact Hpc.out.drew | exact P4.out | exact P4.out.alloc _ | exact P6.out | exact P6.out.far HGP.out _) (fun _ => ?_); clear hK K; (try simp only [Act.put, List.setIfInBounds_toArray, List.set_cons_zero, List.set_cons_succ]))
          (refine wpAnyH_ready (rs := [14]) (by kernel_rfl) (by simp) ?_; refine (AllReadyH.cons rfl (fun K hK => ?_) AllReadyH.nil))
          (refine step_app_atS _ (by rfl) _ _ 32 (by rfl) base 35 rpkz 9 72 rpkk x.pv n2 (pkRow x.qs) (by rfl) (Hrow.out.keep (below_alloc' Hb4.out _)) (.slice (some ⟨w4.heap.size, 0, none⟩) 1 1) 1 [.int .u32 (src : Int), .int .u32 (dst : Int), .int .i64 proto, .int .i64 id, .int .i64 off, .bool more, .bool wh, .int .i64 ttl, .slice A1 n c1] (by rfl) (rowS_lit 9 #[.int .u32 (src : Int), .int .u32 (dst : Int), .int .i64 proto, .int .i64 id, .int .i64 off, .bool more, .bool wh, .int .i64 ttl, .slice A1 n c1] 1 _ rfl rfl (by simp [maxLen])) (by simp [Value.oneCell']) (by decide) (by omega) (by simp only [maxLen]; omega) (Nat.le_trans KT.out.zone (below_alloc' Hb4.out _).size) ?_; intro v6 w6 hr6 hg6 hv6; have hwy : Below wt.heap.size wt (w4.alloc (.cells #[.int .u32 (src : Int), .int .u32 (dst : Int), .int .i64 proto, .int .i64 id, .int .i64 off, .bool more, .bool wh, .int .i64 ttl, .slice A1 n c1] 35)) := below_alloc' Hb4.out _; obtain ⟨A6, cap6, rfl⟩ : ∃ A c, v6 = .slice A (n2 + 1) c := (by obtain ⟨_, A, c, h, _⟩ := hr6.rowN; exact ⟨A, c, h⟩); have hb6 := (Hxi.out.blk.keep hwy).grown hg6 (fun e => (Hxi.out.row.keep hwy).ne (Hxi.out.blk.keep hwy) (by decide) e.symm); have P6 := hid ((Hpc.out.keep hwy).grown hg6 (fun e => (HF1r.out _ (Hxi.out.fp _ e.symm)).1 rfl)); have Hr6 := hid hr6; have Hf6 := hid ((Below.frameF (below_alloc w4 (.cells #[.int .u32 (src : Int), .int .u32 (dst : Int), .int .i64 proto, .int .i64 id, .int .i64 off, .bool more, .bool wh, .int .i64 ttl, .slice A1 n c1] 35)) (fun k => k = x.g ∨ x.pv.ownBlock = some k)).trans (frame_grown hg6 (F := fun k => k = x.g ∨ x.pv.ownBlock = some k) (fun k hk => .inr hk)) (fun _ _ h => h)); have Hv6 := hid (show ∀ k, (Value.slice A6 (n2 + 1) cap6).ownBlock = some k → x.pv.ownBlock = some k ∨ wt.heap.size ≤ k from fun k hk => (by rcases hv6 with q | q; exact .inl (by rw [← q]; exact hk); rw [q] at hk; injection hk with hk; have := hwy.size; exact .inr (by omega))); have e10 : w6.cell? ⟨x.g, 10, none⟩ = some x.pv := hb6.cell 10; have z10 := hb6.frozen 10; have Hb6 := hid hb6; clear hwy hr6 hg6 hv6 hb6)
          (refine hK.out _ _ (by first | exact Hpc.out.drew | exact P4.out | exact P4.out.alloc _ | exact P6.out | exact P6.out.far HGP.out _) (fun _ => ?_); clear hK K; (try simp only [Act.put, List.setIfInBounds_toArray, List.set_cons_zero, List.set_cons_succ]))
          (refine wpAnyH_ready (rs := [15]) (by kernel_rfl) (by simp) ?_; refine (AllReadyH.cons rfl (fun K hK => ?_) AllReadyH.nil))
          go_simp
          (refine hK.out _ _ (by first | exact Hpc.out.drew | exact P4.out | exact P4.out.alloc _ | exact P6.out | exact P6.out.far HGP.out _) (fun _ => ?_); clear hK K; (try simp only [Act.put, List.setIfInBounds_toArray, List.set_cons_zero, List.set_cons_succ]))
          (refine wpAnyH_ready (rs := [16]) (by kernel_rfl) (by simp) ?_; refine (AllReadyH.cons rfl (fun K hK => ?_) AllReadyH.nil))
          go_simp
          (refine hK.out _ _ (by first | exact Hpc.out.drew | exact P4.out | exact P4.out.alloc _ | exact P6.out | exact P6.out.far HGP.out _) (fun _ => ?_); clear hK K; (try simp only [Act.put, List.setIfInBounds_toArray, List.set_cons_zero, List.set_cons_succ]))
          (refine wpAnyH_ready (rs := [17]) (by kernel_rfl) (by simp) ?_; refine (AllReadyH.cons rfl (fun K hK => ?_) AllReadyH.nil))
          go_simp
          (refine hK.out _ _ (by first | exact Hpc.out.drew | exact P4.out | exact P4.out.alloc _ | exact P6.out | exact P6.out.far HGP.out _) (fun _ => ?_); clear hK K; (try simp only [Act.put, List.setIfInBounds_toArray, List.set_cons_zero, List.set_cons_succ]))
          refine wpAnyH_done (by kernel_rfl) ?_ _
          go_wp2_with fail
          go_meet
          case rel =>
            have hgs := grown_set w6 x.g 10 (.slice A6 (n2 + 1) cap6)
            have hf7 := Hf6.out.trans (frame_grown hgs (F := fun k => k = x.g ∨ x.pv.ownBlock = some k) (fun k hk => .inl (by injection hk with hk; exact hk.symm))) (fun _ _ h => h)
            refine ⟨A1, c1, .slice A6 (n2 + 1) cap6, Hb6.out.set_ 10 _, Hr6.out.same (fun k hk => hgs.block k (Hr6.out.lt hk).2 (fun e => ?_)), hf7.own Hown4.out (fun k hk q => ?_), (Below.frameF Hb4.out (fun k => k = x.g ∨ x.pv.ownBlock = some k)).trans hf7 (fun _ _ h => h), Hv6.out⟩
            · injection e with e
              subst e
              exact Hr6.out.ne Hb6.out (by decide) hk
            · have h1 := (own_at Hown4.out hk).1
              rcases q with q | q
              · have := Hxi.out.blk.lt; omega
              · have := (Hxi.out.row.lt q).2; omega
    case rest =>
    obtain ⟨A1, c1, pv2, hblk, hrow2, hown2, hfr2, hv2⟩ := hcut
    generalize wc = w7 at *
    have hpk : pkCells (twn (⟨src, dst, proto, id, off, more, whole, ttl, body⟩ : Pk)) (.slice A1 n c1) = [.int .u32 (src : Int), .int .u32 (dst : Int), .int .i64 proto, .int .i64 id, .int .i64 off, .bool more, .bool wh, .int .i64 ttl, .slice A1 n c1] := by rw [← Hwh.out]; rfl
    have hxi := Hxi.out
    have hok3 : (pMore x.w (⟨src, dst, proto, id, off, more, whole, ttl, body⟩ : Pk)).Ok := Hok2.out.ok
    have hsz7 := hfr2.size
    have hwt : w.heap.size + 2 ≤ wt.heap.size := Hrc.out.lt
    have HG := hid (show ∀ k, (k = x.g ∨ x.pv.ownBlock = some k) → F1 k from fun k hk => by
      rcases hk with rfl | hk
      · exact hxi.fg
      · exact hxi.fp k hk)
    have hpc7 := hfr2.blk Hpc.out (fun q => (HF1r.out _ (HG.out _ q)).1 rfl)
    have hrc7 := hfr2.blk Hrc.out (fun q => (HF1r.out _ (HG.out _ q)).2 rfl)
    have hFR := Hfr.out.trans hfr2 (fun i hi q => by
      rcases HF1.out i (HG.out i q) with q | q
      · exact q
      · omega)
    have Hbs7 := hid (bs_frame HBs.out hFR HvF.out)
    have itx : RItAt w7 base clock (⟨pMore x.w (⟨src, dst, proto, id, off, more, whole, ttl, body⟩ : Pk), x.g, x.kp, x.kv, pv2, x.qs ++ [(twn (⟨src, dst, proto, id, off, more, whole, ttl, body⟩ : Pk), .slice A1 n c1)]⟩ : RIt) (fun k => F1 k ∨ (Value.slice A1 n c1).ownBlock = some k ∨ pv2.ownBlock = some k) := by
      refine ⟨hblk, hxi.one, hxi.key, ?_, ?_, ?_, .inl hxi.fg, fun k hk => .inr (.inr hk), ?_⟩
      · have e1 : (x.qs ++ [(twn (⟨src, dst, proto, id, off, more, whole, ttl, body⟩ : Pk), Value.slice A1 n c1)]).length = n2 + 1 := by rw [List.length_append, Hn2.out]; rfl
        rw [e1, pkRow_snoc, hpk]
        exact hrow2
      · intro q hq
        rcases List.mem_append.1 hq with hq | hq
        · refine hfr2.own (hxi.bod q hq) fun k hk => ?_
          obtain ⟨cur, hcur⟩ := own_blkS (hxi.bod q hq) hk
          exact hxi.not hcur (by decide)
        · simp at hq
          subst hq
          exact hown2.mono KT.out.zone
      · rw [List.map_append, hxi.fst]
        show _ = (x.w.parts ++ [(⟨src, dst, proto, id, off, more, whole, ttl, body⟩ : Pk)]).map twn
        rw [List.map_append]
        rfl
      · intro q hq k hk
        rcases List.mem_append.1 hq with hq | hq
        · exact .inl (hxi.fb q hq k hk)
        · simp at hq
          subst hq
          exact .inr (.inl hk)
    have K3 : RPtAt w7 base g clock (swapR L1 x (⟨pMore x.w (⟨src, dst, proto, id, off, more, whole, ttl, body⟩ : Pk), x.g, x.kp, x.kv, pv2, x.qs ++ [(twn (⟨src, dst, proto, id, off, more, whole, ttl, body⟩ : Pk), .slice A1 n c1)]⟩ : RIt)) (m + 1) vr1 (fun k => F1 k ∨ (Value.slice A1 n c1).ownBlock = some k ∨ pv2.ownBlock = some k) := by
      refine KT.out.turn Hx.out rfl rfl (fun k hk => .inl hk) (hfr2.blk KT.out.tab (hxi.not KT.out.tab (by decide))) (KT.out.row.same fun k hk => hfr2.block k (KT.out.row.lt hk).2 ?_) (fun y hy hne => ((KT.out.it y hy).aside hxi hne (KT.out.part Hx.out hy hne) hfr2).weaken (fun k hk => .inl hk)) itx (fun y hy hne k hk => ?_) hok3 ?_ (Nat.le_refl _) (fun k hk => ?_)
      · obtain ⟨cur, hcur⟩ := KT.out.row.blk hk
        exact hxi.not hcur (by decide)
      · rcases hv2 k hk with q | q
        · exact KT.out.part Hx.out hy hne k q
        · intro r
          have := ((KT.out.it y hy).row.lt r).2
          omega
      · rw [List.length_append, Hn2.out]
        simp
        omega
      · rcases hk with hk | hk | hk
        · have := KT.out.flt k hk; omega
        · have := own_at hown2 hk; have := KT.out.zone; omega
        · exact hrow2.lt hk
    have HF2s := hid (show ∀ k, (fun k => F1 k ∨ (Value.slice A1 n c1).ownBlock = some k ∨ pv2.ownBlock = some k) k → F k ∨ w.heap.size + 2 ≤ k from fun k hk => by
      rcases hk with hk | hk | hk
      · exact HF1.out k hk
      · have := own_at hown2 hk; exact .inr (by omega)
      · rcases hv2 k hk with q | q
        · exact HF1.out k (hxi.fp k q)
        · exact .inr (by omega))
    have hoks : ∀ q ∈ x.qs ++ [(twn (⟨src, dst, proto, id, off, more, whole, ttl, body⟩ : Pk), Value.slice A1 n c1)], 0 ≤ q.1.off ∧ q.1.to ≤ 65515 := fun q hq => by
      have : q.1 ∈ (pMore x.w (⟨src, dst, proto, id, off, more, whole, ttl, body⟩ : Pk)).parts.map twn := by rw [← itx.fst]; exact List.mem_map_of_mem hq
      obtain ⟨r, hr, e⟩ := List.mem_map.1 this
      rw [← e]
      exact hok3.off r hr
    have HWh := rwhole_at pv2 (x.qs ++ [(twn (⟨src, dst, proto, id, off, more, whole, ttl, body⟩ : Pk), Value.slice A1 n c1)]) w7 itx.row.rowN (fun q hq => (itx.bod q hq).bs) hoks (by rw [List.length_append, Hn2.out]; simp; omega)
    rw [itx.fst] at HWh
    have hwl := whole_law Hok2.out (pMore x.w (⟨src, dst, proto, id, off, more, whole, ttl, body⟩ : Pk)).k
    have hln := whole_len Hok2.out (pMore x.w (⟨src, dst, proto, id, off, more, whole, ttl, body⟩ : Pk)).k
    have hsw := KT.out.swap_w (x' := (⟨pMore x.w (⟨src, dst, proto, id, off, more, whole, ttl, body⟩ : Pk), x.g, x.kp, x.kv, pv2, x.qs ++ [(twn (⟨src, dst, proto, id, off, more, whole, ttl, body⟩ : Pk), .slice A1 n c1)]⟩ : RIt)) Hx.out rfl
    have hxm : (⟨pMore x.w (⟨src, dst, proto, id, off, more, whole, ttl, body⟩ : Pk), x.g, x.kp, x.kv, pv2, x.qs ++ [(twn (⟨src, dst, proto, id, off, more, whole, ttl, body⟩ : Pk), .slice A1 n c1)]⟩ : RIt) ∈ swapR L1 x (⟨pMore x.w (⟨src, dst, proto, id, off, more, whole, ttl, body⟩ : Pk), x.g, x.kp, x.kv, pv2, x.qs ++ [(twn (⟨src, dst, proto, id, off, more, whole, ttl, body⟩ : Pk), .slice A1 n c1)]⟩ : RIt) := List.mem_map.2 ⟨x, Hx.out, if_pos rfl⟩
    have hrw := K3.rmv_w hxm
    have Hxm := hid hxm
    have hp1 := Hp.out
    dsimp only at hsw hrw HWh
    rw [hwl] at HWh
    rw [← hsw] at hp1
    rw [show (pMore x.w (⟨src, dst, proto, id, off, more, whole, ttl, body⟩ : Pk)).k = Pk.key (⟨src, dst, proto, id, off, more, whole, ttl, body⟩ : Pk) from Hxk.out] at hrw HWh hp1 hln
    obtain ⟨⟨qp, qb⟩, hq⟩ : ∃ q, pWhole (Pk.key (⟨src, dst, proto, id, off, more, whole, ttl, body⟩ : Pk)) (pMore x.w (⟨src, dst, proto, id, off, more, whole, ttl, body⟩ : Pk)).parts (pMore x.w (⟨src, dst, proto, id, off, more, whole, ttl, body⟩ : Pk)).fin = q := ⟨_, rfl⟩
    rw [hq] at HWh hp1 hln
    have d10 : w7.cell? ⟨x.g, 10, none⟩ = some pv2 := hblk.cell 10
    have Hq := hid hq
    have Hrw := hid hrw
    have Hp1 := hid hp1
    have K3 := hid K3
    have HFR := hid hFR
    have Hpc7 := hid hpc7
    have Hrc7 := hid hrc7
    have Hwt := hid hwt
    have Hsz7 := hid hsz7
    have Hln := hid hln
    have HFg := hid (KT.out.flt _ KT.out.fg)
    have HWh := hid HWh
    generalize (fun k => F1 k ∨ (Value.slice A1 n c1).ownBlock = some k ∨ pv2.ownBlock = some k) = F2 at *
    generalize swapR L1 x (⟨pMore x.w (⟨src, dst, proto, id, off, more, whole, ttl, body⟩ : Pk), x.g, x.kp, x.kv, pv2, x.qs ++ [(twn (⟨src, dst, proto, id, off, more, whole, ttl, body⟩ : Pk), .slice A1 n c1)]⟩ : RIt) = L9 at *
    have HDr := hid (fun wx (y : Below w7.heap.size w7 wx) => rdrop_at base g clock L9 (m + 1) vr1 F2 x.g ⟨_, Hxm.out, rfl⟩ wx (K3.out.keep y))
    clear hxm hwl hoks itx hpk hxi hok3 hsz7 hwt hpc7 hrc7 hFR hq hrw hp1 hln hsw hblk hrow2 hown2 hfr2 hv2 Hp Hxk HT c10 Hok2
    cases qb with
    | false =>
      have HWh2 := hid (show Calls Try.prog 48 #[pv2] w7 (fun e w' => Below w7.heap.size w7 w' ∧ ∃ v', e = .returned (.tuple #[v', .int .i64 0, .bool false])) from HWh.out.mono (fun e w' h => ⟨h.1, by obtain ⟨v', he, _⟩ := h.2; exact ⟨v', he⟩⟩))
      clear HWh
      go_wp2_with (first
        | (go_at_call 48; refine HWh2.out.mono ?_; rintro e w8 ⟨hb8, v8, rfl⟩; have Hb8 := hid hb8; have Hbr3 := hid (Hrc7.out.keep hb8); clear hb8)
        | ((with_reducible show wpList _ _ _ (Oper.mk none _ _ _ _ _ :: _) _ _); refine wpList_storeBlk rfl _ _ _ rfl _ _ rfl rfl _ _ Hbr3.out rpkinfo rfl rfl ?_; intro w9 hblk9 hg9 hsz9; have Hblk9 := hid hblk9; have Hg9 := hid hg9; clear hblk9 hg9 hsz9)
        | fail)
      refine ret_cell2 rfl (w.heap.size + 1) 35 _ _ rfl Hblk9.out Try.underlying35 rpkinfo _ rfl rfl ?_
      unfold RAddPost
      have hp1 := Hp1.out
      rw [if_neg (by simp)] at hp1
      rw [hp1]
      have hw0 := Hwt.out
      refine ⟨.slice none 0 0, rfl, OwnBs.nil _ _ _, F2, ⟨L9, vr1, rfl, (K3.out.keep Hb8.out).same (frame_one Hg9.out) (fun k hk e => ?_)⟩, ?_, fun k hk => ?_⟩
      · rcases HF2s.out k hk with q | q
        · have := HFb.out k q; omega
        · omega
      · exact (HFR.out.trans (Below.frameF Hb8.out F) (fun _ _ h => h)).trans (frame_one Hg9.out) (fun i hi q => by omega)
      · rcases HF2s.out k hk with q | q
        · exact .inl q
        · exact .inr (by omega)
    | true =>
      obtain ⟨tt9, bd9, rfl⟩ := whole_form Hq.out
      have HWh2 := hid (show Calls Try.prog 48 #[pv2] w7 (fun e w' => Below w7.heap.size w7 w' ∧ ∃ v', e = .returned (.tuple #[v', .int .i64 tt9, .bool true]) ∧ OwnBs w' w7.heap.size 5 v' bd9) from HWh.out)
      clear HWh
      obtain ⟨n9, hn9⟩ : ∃ z, bd9.length = z := ⟨_, rfl⟩
      have Hn9 := hid hn9
      have HT2 := hid (show ∀ wx v8, Bs wx (.slice A n cap) body → Bs wx v8 bd9 → Calls Try.prog 32 #[.agg #[.int .u32 (src : Int), .int .u32 (dst : Int), .int .i64 proto, .int .i64 id, .int .i64 off, .bool more, .bool whole, .int .i64 ttl, .slice A n cap], .int .i64 0, v8, .bool false] wx fun e w' => ∃ A2 c2, e = .returned (.agg #[.int .u32 (src : Int), .int .u32 (dst : Int), .int .i64 proto, .int .i64 id, .int .i64 0, .bool false, .bool true, .int .i64 ttl, .slice A2 n9 c2]) ∧ OwnBs w' wx.heap.size 5 (.slice A2 n9 c2) bd9 ∧ Below wx.heap.size wx w' from fun wx v8 h1 h2 => by
        refine (rtwin_any (.slice A n cap) (⟨src, dst, proto, id, off, more, whole, ttl, body⟩ : Pk) 0 v8 bd9 false wx h1 h2 (Nat.le_trans Hln.out (by decide))).mono ?_
        rintro e w' ⟨v', rfl, ho, hb'⟩
        obtain ⟨A2, c2, rfl⟩ := slice_len ho.bs Hn9.out
        exact ⟨A2, c2, rfl, ho, hb'⟩)
      clear hn9
      go_wp2_with (first
        | (go_at_call 48; refine HWh2.out.mono ?_; rintro e w8 ⟨hb8, v8, rfl, hown8⟩; have Hb8 := hid hb8; have Hown8 := hid hown8; clear hb8 hown8)
        | (go_at_call 45; refine (HDr.out _ Hb8.out).mono ?_; rintro e w9 ⟨⟨u, rfl⟩, vr', F', hk9, hfr9, hF9⟩; have Hk9 := hid hk9; have Hfr9 := hid hfr9; have HF9 := hid hF9; clear hk9 hfr9 hF9; have Hpc9 := hid (Hfr9.out.blk (Hpc7.out.keep Hb8.out) (fun e => (by have := (HAt.out.flt _ HAt.out.fg).2; omega))); have Hrc9 := hid (Hfr9.out.blk (Hrc7.out.keep Hb8.out) (fun e => (by have := (HAt.out.flt _ HAt.out.fg).2; omega))); have Hbs9 := hid (bs_frame (Hbs7.out.below Hb8.out) Hfr9.out (fun a n c e hz q => HvF.out a n c e hz (by rw [q]; exact HAt.out.fg))); have Hown9 := hid (Hfr9.out.own Hown8.out (fun k hk e => by have h1 := own_at Hown8.out hk; have h2 := (HAt.out.flt _ HAt.out.fg).2; have h3 := Hwt.out; have h4 := Hsz7.out; omega)))
        | ((with_reducible show wpList _ _ _ (Oper.mk (some 152) _ _ _ _ _ :: _) _ _); refine wpList_loadBlk rfl _ _ rfl _ rfl _ _ _ Hpc9.out Try.underlying35 rpkinfo ?_)
        | (go_at_call 32; refine (HT2.out w9 v8 Hbs9.out (OwnBs.bs Hown9.out)).mono ?_; rintro e w3 ⟨A2, c2, rfl, hown3, hb3⟩; have Hb3 := hid hb3; have Hown3 := hid hown3; have Hbr3 := hid ((Hrc9.out.keep hb3).alloc (.cells #[.int .u32 (src : Int), .int .u32 (dst : Int), .int .i64 proto, .int .i64 id, .int .i64 0, .bool false, .bool true, .int .i64 tt9, .slice A2 n9 c2] 35)); clear hb3 hown3)
        | ((with_reducible show wpList _ _ _ (Oper.mk none _ _ _ _ _ :: _) _ _); refine wpList_storeBlk rfl _ _ _ rfl _ _ rfl rfl _ _ Hbr3.out rpkinfo rfl rfl ?_; intro w9 hblk9 hg9 hsz9; have Hblk9 := hid hblk9; have Hg9 := hid hg9; clear hblk9 hg9 hsz9)
        | fail)
      refine ret_cell2 rfl (w.heap.size + 1) 35 _ _ rfl Hblk9.out Try.underlying35 rpkinfo _ rfl rfl ?_
      unfold RAddPost
      have hp1 := Hp1.out
      rw [if_pos trivial] at hp1
      rw [hp1]
      have hw0 := Hwt.out
      have hw7 := Hsz7.out
      have hs8 := Hb8.out.size
      have hs9 := Hfr9.out.size
      have hb4 := below_alloc' Hb3.out (.cells #[.int .u32 (src : Int), .int .u32 (dst : Int), .int .i64 proto, .int .i64 id, .int .i64 0, .bool false, .bool true, .int .i64 tt9, .slice A2 n9 c2] 35)
      refine ⟨.slice A2 n9 c2, rfl, ?_, F', ⟨_, vr', Hrw.out, (Hk9.out.keep hb4).same (frame_one Hg9.out) (fun k hk e => ?_)⟩, ?_, fun k hk => ?_⟩
      · exact (ownBs_store (Hown3.out.alloc (.cells #[.int .u32 (src : Int), .int .u32 (dst : Int), .int .i64 proto, .int .i64 id, .int .i64 0, .bool false, .bool true, .int .i64 tt9, .slice A2 n9 c2] 35)) Hbr3.out (by decide) Hg9.out).mono (by omega)
      · rcases HF9.out k hk with q | q
        · rcases HF2s.out k q with q | q
          · have := HFb.out k q; omega
          · omega
        · omega
      · exact ((((HFR.out.trans (Below.frameF Hb8.out F) (fun _ _ h => h)).trans Hfr9.out (fun i hi q => by rw [q]; exact HAt.out.fg)).trans (Below.frameF hb4 F) (fun _ _ h => h))).trans (frame_one Hg9.out) (fun i hi q => by omega)
      · rcases HF9.out k hk with q | q
        · rcases HF2s.out k q with q | q
          · exact .inl q
          · exact .inr (by omega)
        · exact .inr (by omega)
end
section
open Go Go.RowKit

theorem radd_any (base g : Nat) (clock : Int) (l : List Wt) (m : Nat) (F : Nat → Prop) (v : Value) (p : Pk) (w : World) (h : RPt w base g clock l m F) (hm : m < 90000) (hb : Bs w v p.body) (hl : p.body.length ≤ 1099511627776) (hkey : p.key.Ok) (hsnd : SndL l) (hlo : -9223372036854775808 ≤ p.off) (hvF : ∀ a n c, v = .slice (some a) n c → n ≠ 0 → ¬ F a.block) :
    Calls Try.prog 28 #[.pointer (some ⟨g, 0, none⟩), .agg (pkCells p v).toArray] w (RAddPost base g clock l m F p w) := by
  by_cases hw : p.off = 0 ∧ p.more = false
  · exact radd_whole base g clock l m F v p w h hb hl hw
  cases hwr : pWrong p with
  | true => exact radd_wrong base g clock l m F v p w h hb hl hw hwr hlo
  | false => exact radd_main base g clock l m F v p w h hb hl hw hwr hm hkey hsnd hlo hvF
/-- what waits, on both sides, while the law plays -/
structure PtSt (w0 w : World) (gP gX : Nat) (clock : Int) (m : Nat) (l : List Wt) (F FX : Nat → Prop) : Prop where
  a : PtInv w w0.heap.size gP l m F
  x : RPt w w0.heap.size gX clock l m FX
  dis : ∀ k, F k → ¬ FX k
  bel : Below w0.heap.size w0 w
/-- the same, where the two rows differ yet -/
structure PtSt2 (w0 w : World) (gP gX : Nat) (clock : Int) (mA mX : Nat) (lA lX : List Wt) (F FX : Nat → Prop) : Prop where
  a : PtInv w w0.heap.size gP lA mA F
  x : RPt w w0.heap.size gX clock lX mX FX
  dis : ∀ k, F k → ¬ FX k
  bel : Below w0.heap.size w0 w
section
variable {w0 w w' : World} {gP gX mA mX m' : Nat} {clock clock' : Int} {lA lX l' : List Wt} {F FX F' FX' : Nat → Prop}
theorem PtSt2.keep (h : PtSt2 w0 w gP gX clock mA mX lA lX F FX) (hb : Below w.heap.size w w') : PtSt2 w0 w' gP gX clock mA mX lA lX F FX :=
  ⟨h.a.keep hb, h.x.keep hb, h.dis, h.bel.trans (hb.mono h.bel.size)⟩
theorem PtSt2.opA (h : PtSt2 w0 w gP gX clock mA mX lA lX F FX) (hf : Frame F w w') (hi : PtInv w' w0.heap.size gP l' m' F') (hn : ∀ k, F' k → F k ∨ w.heap.size ≤ k) : PtSt2 w0 w' gP gX clock m' mX l' lX F' FX :=
  ⟨hi, h.x.frame hf (fun k hk q => h.dis k q hk), fun k hk q => by
    rcases hn k hk with r | r
    · exact h.dis k r q
    · have := (h.x.lt k q).2
      omega, h.bel.trans (hf.below (fun k hk => (h.a.lt k hk).1) h.bel.size)⟩
theorem PtSt2.opX (h : PtSt2 w0 w gP gX clock mA mX lA lX F FX) (hf : Frame FX w w') (hi : RPt w' w0.heap.size gX clock' l' m' FX') (hn : ∀ k, FX' k → FX k ∨ w.heap.size ≤ k) : PtSt2 w0 w' gP gX clock' mA m' lA l' F FX' :=
  ⟨h.a.frame hf h.dis, hi, fun k hk q => by
    rcases hn k q with r | r
    · exact h.dis k hk r
    · have := (h.a.lt k hk).2
      omega, h.bel.trans (hf.below (fun k hk => (h.x.lt k hk).1) h.bel.size)⟩
/-- a write into blocks of neither side -/
theorem PtSt2.free {G : Nat → Prop} (h : PtSt2 w0 w gP gX clock mA mX lA lX F FX) (hf : Frame G w w') (hG : ∀ k, G k → w0.heap.size ≤ k ∧ ¬ F k ∧ ¬ FX k) : PtSt2 w0 w' gP gX clock mA mX lA lX F FX :=
  ⟨h.a.frame hf (fun k hk q => (hG k q).2.1 hk), h.x.frame hf (fun k hk q => (hG k q).2.2 hk), h.dis, h.bel.trans (hf.below (fun k hk => (hG k hk).1) h.bel.size)⟩
end
/-- a block of the law's own, apart from both -/
structure Own1 (w : World) (g : Nat) (t : TypeId) (cs : List Value) (F FX : Nat → Prop) : Prop where
  blk : Blk w g t cs
  a : ¬ F g
  x : ¬ FX g
theorem Own1.keep {w w' : World} {g : Nat} {t : TypeId} {cs : List Value} {F FX : Nat → Prop} (h : Own1 w g t cs F FX) (hb : Below w.heap.size w w') : Own1 w' g t cs F FX := ⟨h.blk.keep hb, h.a, h.x⟩
theorem Own1.opA {w w' : World} {g : Nat} {t : TypeId} {cs : List Value} {F FX F' : Nat → Prop} (h : Own1 w g t cs F FX) (hf : Frame F w w') (hn : ∀ k, F' k → F k ∨ w.heap.size ≤ k) : Own1 w' g t cs F' FX :=
  ⟨hf.blk h.blk h.a, fun q => by
    rcases hn g q with r | r
    · exact h.a r
    · have := h.blk.lt
      omega, h.x⟩
theorem Own1.opX {w w' : World} {g : Nat} {t : TypeId} {cs : List Value} {F FX FX' : Nat → Prop} (h : Own1 w g t cs F FX) (hf : Frame FX w w') (hn : ∀ k, FX' k → FX k ∨ w.heap.size ≤ k) : Own1 w' g t cs F FX' :=
  ⟨hf.blk h.blk h.x, h.a, fun q => by
    rcases hn g q with r | r
    · exact h.x r
    · have := h.blk.lt
      omega⟩
/-- a step of the law's -/
structure IStep where
  n : Int
  p : Pk
  v : Value
def IStep.cells (s : IStep) : List Value := .int .i64 s.n :: pkCells s.p s.v
def iRow (L : List IStep) : List Value := L.flatMap IStep.cells
theorem iRow_at (L : List IStep) (i j : Nat) (hi : i < L.length) (hj : j < 10) : (iRow L)[i * 10 + j]? = L[i].cells[j]? := by
  induction L generalizing i with
  | nil => simp at hi
  | cons x L ih =>
    have hx : x.cells.length = 10 := rfl
    rw [show iRow (x :: L) = x.cells ++ iRow L from rfl]
    cases i with
    | zero => rw [List.getElem?_append_left (by rw [hx]; omega)]; simp
    | succ i =>
      rw [List.getElem?_append_right (by rw [hx]; omega), hx, show (i + 1) * 10 + j - 10 = i * 10 + j by omega, ih i (by simpa using hi)]
      rfl
theorem istepinfo : (Try.prog.info? 68).map (·.size) = some 10 := by kernel_rfl
structure IStep.Ok (w : World) (s : IStep) : Prop where
  lo : -9223372036854775808 ≤ s.n
  key : s.p.key.Ok
  off : -9223372036854775808 ≤ s.p.off
  b : Bs w s.v s.p.body
end
end Go.Proofs.Ytbjiicnagfeciaa
