/- The law's example of peers. -/
import Derived.Test.YtefpfjdfkecjkaaEthK
namespace Go.Proofs.Ytefpfjdfkecjkaa
open Go Go.RowKit
attribute [local go_sem ↓] Go.wp_at_zero Go.wp_at_succ
set_option maxRecDepth 100000

def mA : Mac := ⟨2, 1, 0, 0, 0, 0⟩
def mB : Mac := ⟨2, 2, 0, 0, 0, 0⟩
def fr1 : List UInt8 := arpFrame .all 1 mA 7 .zero 9
def fr2 : List UInt8 := arpFrame mA 2 mB 9 mA 7
def body1 : List UInt8 := arpBody 1 mA 7 .zero 9
def body2 : List UInt8 := arpBody 2 mB 9 mA 7
theorem ex1 : eParse fr1 = (⟨.all, mA, 2054, body1⟩, 0) := by kernel_rfl
theorem ex2 : eParse fr2 = (⟨mA, mB, 2054, body2⟩, 0) := by kernel_rfl
theorem ex3 : hearCode 9 ⟨.all, mA, 2054, body1⟩ = 0 := by kernel_rfl
theorem ex4 : hearList 9 [] ⟨.all, mA, 2054, body1⟩ = [(7, mA)] := by kernel_rfl
theorem ex5 : hearTell mB 9 ⟨.all, mA, 2054, body1⟩ = fr2 := by kernel_rfl
theorem ex6 : hearCode 7 ⟨mA, mB, 2054, body2⟩ = 0 := by kernel_rfl
theorem ex7 : hearList 7 [] ⟨mA, mB, 2054, body2⟩ = [(9, mB)] := by kernel_rfl
theorem ex8 : hearTell mA 7 ⟨mA, mB, 2054, body2⟩ = [] := by kernel_rfl
theorem ex9 : fr1.length = 42 ∧ fr2.length = 42 ∧ body1.length = 28 ∧ body2.length = 28 := by
  refine ⟨?_, ?_, ?_, ?_⟩ <;> kernel_rfl
theorem ex0 : arpFrame .all 1 mA 7 .zero 9 = fr1 := rfl
attribute [irreducible] fr1 fr2 body1 body2
structure KSt (w0 w : World) (gA gB mcA mcB : Nat) (lA lB : List Peer) (FA FB : Nat → Prop) : Prop where
  a : PeersInv w w0.heap.size gA mA 7 lA mcA FA
  b : PeersInv w w0.heap.size gB mB 9 lB mcB FB
  dis : ∀ k, FA k → ¬ FB k
  bel : Below w0.heap.size w0 w
section
variable {w0 w w' : World} {gA gB mcA mcB g : Nat} {lA lB : List Peer} {FA FB : Nat → Prop}
theorem KSt.keep (h : KSt w0 w gA gB mcA mcB lA lB FA FB) (hb : Below w.heap.size w w') : KSt w0 w' gA gB mcA mcB lA lB FA FB :=
  ⟨h.a.keep hb, h.b.keep hb, h.dis, h.bel.trans (hb.mono h.bel.size)⟩
theorem KSt.store (h : KSt w0 w gA gB mcA mcB lA lB FA FB) (hg : w.grownBy w' (some g)) (ha : ¬ FA g) (hb : ¬ FB g) (h0 : w0.heap.size ≤ g) : KSt w0 w' gA gB mcA mcB lA lB FA FB :=
  ⟨h.a.frame (frame_grown hg (F := (· = g)) (fun k hk => by injection hk with hk; exact hk.symm)) (fun k hk e => by subst e; exact ha hk), h.b.frame (frame_grown hg (F := (· = g)) (fun k hk => by injection hk with hk; exact hk.symm)) (fun k hk e => by subst e; exact hb hk), h.dis, below_own h.bel hg h0 h.bel.size⟩
theorem KSt.hearB {lB' : List Peer} {FB' : Nat → Prop} {m' : Nat} (h : KSt w0 w gA gB mcA mcB lA lB FA FB) (hf : Frame FB w w') (hi : PeersInv w' w0.heap.size gB mB 9 lB' m' FB') (hn : ∀ k, FB' k → FB k ∨ w.heap.size ≤ k) : KSt w0 w' gA gB mcA m' lA lB' FA FB' :=
  ⟨h.a.frame hf h.dis, hi, fun k hk q => by rcases hn k q with q | q; exact h.dis k hk q; (have := (h.a.lt k hk).2; omega), h.bel.trans (hf.below (fun k hk => (h.b.lt k hk).1) h.bel.size)⟩
theorem KSt.hearA {lA' : List Peer} {FA' : Nat → Prop} {m' : Nat} (h : KSt w0 w gA gB mcA mcB lA lB FA FB) (hf : Frame FA w w') (hi : PeersInv w' w0.heap.size gA mA 7 lA' m' FA') (hn : ∀ k, FA' k → FA k ∨ w.heap.size ≤ k) : KSt w0 w' gA gB m' mcB lA' lB FA' FB :=
  ⟨hi, h.b.frame hf (fun k hk q => h.dis k q hk), fun k hk q => by rcases hn k hk with r | r; exact h.dis k r q; (have := (h.b.lt k q).2; omega), h.bel.trans (hf.below (fun k hk => (h.a.lt k hk).1) h.bel.size)⟩
end
/-- a frame that was read, as a row of cells -/
structure FrmIs (w : World) (base : Nat) (f : Frm) (cs : List Value) : Prop where
  val : ∃ A c, cs = f.cells (.slice A f.body.length c) ∧ OwnBs w base 5 (.slice A f.body.length c) f.body
theorem FrmIs.len {w : World} {base : Nat} {f : Frm} {cs : List Value} (h : FrmIs w base f cs) : cs.length = 14 := by obtain ⟨A, c, rfl, _⟩ := h.val; rfl
theorem FrmIs.one {w : World} {base : Nat} {f : Frm} {cs : List Value} (h : FrmIs w base f cs) : cs.toArray.toList.all (·.oneCell') = true := by obtain ⟨A, c, rfl, _⟩ := h.val; simp [Frm.cells, Mac.cells, Value.oneCell']
theorem FrmIs.keep {w w' : World} {base : Nat} {f : Frm} {cs : List Value} (h : FrmIs w base f cs) (hb : Below w.heap.size w w') : FrmIs w' base f cs := by
  obtain ⟨A, c, hc, ho⟩ := h.val
  exact ⟨A, c, hc, ho.below hb⟩
theorem parse_at (v : Value) (b : List UInt8) (f : Frm) (w : World) (hf : eParse b = (f, 0)) (h : Bs w v b) (hl : b.length ≤ 100000000) : Calls Try.prog 8 #[v] w fun e w' => ∃ x0 x1 x2 x3 x4 x5 x6 x7 x8 x9 x10 x11 x12 x13, e = .returned (.tuple #[.agg #[x0, x1, x2, x3, x4, x5, x6, x7, x8, x9, x10, x11, x12, x13], .int .i64 0]) ∧ FrmIs w' w.heap.size f [x0, x1, x2, x3, x4, x5, x6, x7, x8, x9, x10, x11, x12, x13] ∧ Below w.heap.size w w' := by
  refine (parse_any v b w h hl).mono ?_
  unfold ParsePost
  rw [hf]
  rintro e w' ⟨v', rfl, hown, hb⟩
  obtain ⟨A, c, rfl⟩ := slice_len hown.bs rfl
  exact ⟨_, _, _, _, _, _, _, _, _, _, _, _, _, _, rfl, ⟨A, c, rfl, hown⟩, hb⟩
theorem hear_at (base g : Nat) {base2 : Nat} (mac : Mac) (ip : Nat) (hip : ip < 4294967296) (l l' : List Peer) (m : Nat) (F : Nat → Prop) (f : Frm) (tell : List UInt8) (cs : List Value) (w : World) (hc : hearCode ip f = 0) (hL : hearList ip l f = l') (hT : hearTell mac ip f = tell) (h : PeersInv w base g mac ip l m F) (hm : m < 100000) (hB : FrmIs w base2 f cs) (hl : f.body.length ≤ 1000000) :
    Calls Try.prog 17 #[.pointer (some ⟨g, 0, none⟩), .agg cs.toArray] w fun e w' => ∃ v', e = .returned (.tuple #[v', .int .i64 0]) ∧ OwnBs w' w.heap.size 5 v' tell ∧ ∃ F', PeersInv w' base g mac ip l' (m + 1) F' ∧ Frame F w w' ∧ (∀ k, F' k → F k ∨ w.heap.size ≤ k) ∧ ∀ k, v'.ownBlock = some k → ¬ F' k := by
  subst hL
  subst hT
  obtain ⟨A, c, rfl, ho⟩ := hB.val
  have := hear_any base g mac ip hip l m F f A _ c w h hm ho.bs hl
  unfold HearPost at this
  rw [hc] at this
  exact this
theorem run_lit_A (w : World) : (Op.equalIn 10000 23 (.agg #[.int .u8 2, .int .u8 1, .int .u8 0, .int .u8 0, .int .u8 0, .int .u8 0]) (.agg #[.int .u8 2, .int .u8 1, .int .u8 0, .int .u8 0, .int .u8 0, .int .u8 0])).run Try.prog w = .ok true w := run_mac_same mA w
theorem run_lit_B (w : World) : (Op.equalIn 10000 23 (.agg #[.int .u8 2, .int .u8 2, .int .u8 0, .int .u8 0, .int .u8 0, .int .u8 0]) (.agg #[.int .u8 2, .int .u8 2, .int .u8 0, .int .u8 0, .int .u8 0, .int .u8 0])).run Try.prog w = .ok true w := run_mac_same mB w
theorem find_at (base g : Nat) (mac : Mac) (ip : Nat) (l : List Peer) (m : Nat) (F : Nat → Prop) (x : Nat) (mm : Mac) (hx : x < 4294967296) (w : World) (h : PeersInv w base g mac ip l m F) (hf : pFind l x = some mm) :
    Calls Try.prog 22 #[.pointer (some ⟨g, 0, none⟩), .int .u32 (x : Int)] w fun e w' => e = .returned (.tuple #[mm.val, .bool true]) ∧ Below w.heap.size w w' := by
  have := find_any base g mac ip l m F x hx w h
  unfold FindPost at this
  rw [hf] at this
  exact this
theorem frm_grown {w w' : World} {base g : Nat} {f : Frm} {cs : List Value} (h : FrmIs w base f cs) (hg : w.grownBy w' (some g)) (hgt : ∃ t xs, Blk w g t xs ∧ t ≠ 5) : FrmIs w' base f cs := by
  obtain ⟨A, c, hc, ho⟩ := h.val
  obtain ⟨t, xs, hb, ht⟩ := hgt
  exact ⟨A, c, hc, ownBs_store ho hb ht hg⟩
set_option maxHeartbeats 1000000 in
theorem known_any (w : World) : Calls Try.prog 7 #[] w fun e w' => e = .returned (.bool true) ∧ Below w.heap.size w w' := by
  have N1 := fun wx => new_any mA 7 wx
  have N2 := fun wx => new_any mB 9 wx
  have e1 := run_lit_A
  have e2 := run_lit_B
  go_enter Try.func7, Try.ntmps7
  have EX := ex9
  obtain ⟨L1, L2, L3, L4⟩ := ex9
  clear EX
  have HL := hid (And.intro L1 (And.intro L2 (And.intro L3 L4)))
  clear L1 L2 L3 L4
  go_upto_region 9 with (first
    | (go_at_call 14; refine (N1 _).mono ?_; rintro e w1 ⟨gA, FA, rfl, hA, hb⟩; have HA := hid hA; have HbA := hid hb; clear hA hb)
    | (go_at_call 14; refine (N2 _).mono ?_; rintro e w2 ⟨gB, FB, rfl, hB, hb⟩; have K1 := hid (show KSt w w2 gA gB 0 0 [] [] FA FB from ⟨HA.out.keep hb, hB.mono HbA.out.size (Nat.le_refl _), (fun k hk q => by have := (HA.out.lt k hk).2; have := (hB.lt k q).1; omega), HbA.out.trans (hb.mono HbA.out.size)⟩); clear HA HbA hB hb)
    | (go_at_call 19; refine (ask_any _ gA mA 7 (by decide) [] 0 FA 9 (by decide) _ K1.out.a).mono ?_; rintro e w3 ⟨v3, rfl, ho, hb⟩; have K3 := hid (K1.out.keep hb); rw [ex0] at ho; have O3 := hid ho.bs; clear ho hb)
    | (go_at_call 8; refine (parse_at v3 fr1 _ _ ex1 O3.out (by have := HL.out.1; omega)).mono ?_; rintro e w4 ⟨x0, x1, x2, x3, x4, x5, x6, x7, x8, x9, x10, x11, x12, x13, rfl, hf, hb⟩; have K4 := hid (K3.out.keep hb); have F4 := hid hf; clear hf hb)
    | ((with_reducible show wpList _ _ _ (Oper.mk none (Op.store _ (Operand.tmp 3) _) _ _ _ _ :: _) _ _); refine wpList_storeBlk rfl _ _ _ rfl _ _ rfl rfl _ _ (Blk.new _ _ _) eframeinfo rfl F4.out.one ?_; intro w5 hblk hg hsz; have Kb5 := hid (below_new_store hg); have K5 := hid (K4.out.keep Kb5.out); have F5 := hid (F4.out.keep Kb5.out); have B5 := hid hblk; clear hblk hg hsz)
    | ((with_reducible show wpList _ _ _ (Oper.mk (some 33) _ _ _ _ _ :: _) _ _); refine wpList_loadBlk rfl _ _ rfl _ rfl _ _ _ B5.out Try.underlying25 eframeinfo ?_)
    | (go_at_call 17; (refine (hear_at w.heap.size gB mB 9 (by decide) [] [(7, mA)] 0 FB _ fr2 _ _ ex3 ex4 ex5 K5.out.b (by decide) F5.out (by show body1.length ≤ _; have := HL.out.2.2.1; omega)).mono ?_); rintro e w6 ⟨v6, rfl, ho, FB', hi, hf, hn, hx⟩; have K6 := hid (K5.out.hearB hf hi hn); have O6 := hid ho.bs; obtain ⟨A6, cap6, rfl⟩ := slice_len ho.bs HL.out.2.1; clear ho hi hf hn hx K1 K3 O3 F4 K4 K5 Kb5 F5 B5)
    | (go_at_call 8; refine (parse_at _ fr2 _ _ ex2 O6.out (by have := HL.out.2.1; omega)).mono ?_; rintro e w7 ⟨y0, y1, y2, y3, y4, y5, y6, y7, y8, y9, y10, y11, y12, y13, rfl, hf, hb⟩; have K7 := hid (K6.out.keep hb); have F7 := hid hf; clear hf hb)
    | ((with_reducible show wpList _ _ _ (Oper.mk none (Op.store _ (Operand.tmp 7) _) _ _ _ _ :: _) _ _); refine wpList_storeBlk rfl _ _ _ rfl _ _ rfl rfl _ _ (Blk.new _ _ _) eframeinfo rfl F7.out.one ?_; intro w8 hblk hg hsz; have Kb8 := hid (below_new_store hg); have K8 := hid (K7.out.keep Kb8.out); have F8 := hid (F7.out.keep Kb8.out); have B8 := hid hblk; clear hblk hg hsz)
    | ((with_reducible show wpList _ _ _ (Oper.mk (some 44) _ _ _ _ _ :: _) _ _); refine wpList_loadBlk rfl _ _ rfl _ rfl _ _ _ B8.out Try.underlying25 eframeinfo ?_)
    | (go_at_call 17; (refine (hear_at w.heap.size gA mA 7 (by decide) [] [(9, mB)] 0 FA _ [] _ _ ex6 ex7 ex8 K8.out.a (by decide) F8.out (by show body2.length ≤ _; have := HL.out.2.2.2; omega)).mono ?_); rintro e w9 ⟨v9, rfl, ho, FA', hi, hf, hn, hx⟩; have K9 := hid (K8.out.hearA hf hi hn); clear ho hi hf hn hx K6 K7 K8 Kb8 F7 F8 B8))
  clear N1 N2 e1 e2
  go_upto_region 10 with (first
    | (go_at_call 22; (refine (find_at w.heap.size gA mA 7 [(9, mB)] _ FA' 9 mB (by decide) _ K9.out.a rfl).mono ?_); rintro e w10 ⟨rfl, hb⟩; have K10 := hid (K9.out.keep hb); dsimp only [mB, Mac.val, Mac.cells]; clear hb)
    | ((with_reducible show wpList _ _ _ (Oper.mk none (Op.store _ (Operand.tmp 11) _) _ _ _ _ :: _) _ _); refine wpList_storeBlk rfl _ _ _ rfl _ _ rfl rfl _ _ (Blk.new _ _ _) macinfo rfl rfl ?_; intro w11 hblk hg hsz; have Kb11 := hid (below_new_store hg); have K11 := hid (K10.out.keep Kb11.out); have B11 := hid hblk; clear hblk hg hsz))
  clear K9 K10
  go_upto_region 11 with (first
    | (go_at_call 22; (refine (find_at w.heap.size gB mB 9 [(7, mA)] _ FB' 7 mA (by decide) _ K11.out.b rfl).mono ?_); rintro e w12 ⟨rfl, hb⟩; have K12 := hid (K11.out.keep hb); have B12 := hid (B11.out.keep hb); dsimp only [mA, Mac.val, Mac.cells]; clear hb)
    | ((with_reducible show wpList _ _ _ (Oper.mk none (Op.store _ (Operand.tmp 13) _) _ _ _ _ :: _) _ _); refine wpList_storeBlk rfl _ _ _ rfl _ _ rfl rfl _ _ (Blk.new _ _ _) macinfo rfl rfl ?_; intro w13 hblk hg hsz; have Kb13 := hid (below_new_store hg); have K13 := hid (K12.out.keep Kb13.out); have B13 := hid (B12.out.keep Kb13.out); have D13 := hid hblk; clear hblk hg hsz))
  have e1 := run_lit_A
  have e2 := run_lit_B
  have p0 := B13.out.cell 0
  have p1 := B13.out.cell 1
  have p2 := B13.out.cell 2
  have p3 := B13.out.cell 3
  have p4 := B13.out.cell 4
  have p5 := B13.out.cell 5
  have q0 := D13.out.cell 0
  have q1 := D13.out.cell 1
  have q2 := D13.out.cell 2
  have q3 := D13.out.cell 3
  have q4 := D13.out.cell 4
  have q5 := D13.out.cell 5
  clear HL
  go_wp2_with fail
  go_ret
  exact ⟨rfl, K13.out.bel⟩
end Go.Proofs.Ytefpfjdfkecjkaa
