/- The walk of EtherPeers. -/
import Derived.Test.YtefpfjdfkecjkaaEthQ
import Derived.Deep.MidRow
import Derived.Deep.CutBlock
namespace Go.Proofs.Ytefpfjdfkecjkaa
open Go Go.RowKit
attribute [local go_sem ↓] Go.wp_at_zero Go.wp_at_succ
set_option maxRecDepth 100000

structure EStep where
  kind : Int
  ip : Nat
  mac : Mac
  f : Frm
  v : Value
def EStep.cells (s : EStep) : List Value := .int .i64 s.kind :: .int .u32 (s.ip : Int) :: s.mac.cells ++ s.f.cells s.v
theorem EStep.clen (s : EStep) : s.cells.length = 22 := rfl
theorem EStep.one (s : EStep) (A : Option Addr) (n c : Nat) (h : s.v = .slice A n c) : s.cells.all (·.oneCell') = true := by
  unfold EStep.cells
  rw [h]
  simp [Frm.cells, Mac.cells, Value.oneCell']
def eRow (L : List EStep) : List Value := L.flatMap EStep.cells
theorem eRow_at (L : List EStep) (i j : Nat) (hi : i < L.length) (hj : j < 22) : (eRow L)[i * 22 + j]? = L[i].cells[j]? := by
  induction L generalizing i with
  | nil => simp at hi
  | cons x L ih =>
    rw [show eRow (x :: L) = x.cells ++ eRow L from rfl]
    cases i with
    | zero => rw [List.getElem?_append_left (by rw [EStep.clen]; omega)]; simp
    | succ i =>
      rw [List.getElem?_append_right (by rw [EStep.clen]; omega), EStep.clen, show (i + 1) * 22 + j - 22 = i * 22 + j by omega, ih i (by simpa using hi)]
      rfl
theorem estepinfo : (Try.prog.info? 49).map (·.size) = some 22 := by kernel_rfl
/-- the peers of both sides while the law plays -/
structure PlSt (w0 w : World) (gP gX : Nat) (mac : Mac) (ip m : Nat) (lA lX : List Peer) (F FX : Nat → Prop) : Prop where
  a : PeersInv w w0.heap.size gP mac ip lA m F
  x : RPInv w w0.heap.size gX mac ip lX FX
  dis : ∀ k, F k → ¬ FX k
  bel : Below w0.heap.size w0 w
section
variable {w0 w w' : World} {gP gX ip m m' : Nat} {mac : Mac} {lA lX l' : List Peer} {F FX F' FX' : Nat → Prop}
theorem PlSt.keep (h : PlSt w0 w gP gX mac ip m lA lX F FX) (hb : Below w.heap.size w w') : PlSt w0 w' gP gX mac ip m lA lX F FX :=
  ⟨h.a.keep hb, h.x.keep hb, h.dis, h.bel.trans (hb.mono h.bel.size)⟩
theorem PlSt.opA (h : PlSt w0 w gP gX mac ip m lA lX F FX) (hf : Frame F w w') (hi : PeersInv w' w0.heap.size gP mac ip l' m' F') (hn : ∀ k, F' k → F k ∨ w.heap.size ≤ k) : PlSt w0 w' gP gX mac ip m' l' lX F' FX :=
  ⟨hi, h.x.frame hf (fun k hk q => h.dis k q hk), fun k hk q => by
    rcases hn k hk with r | r
    · exact h.dis k r q
    · have := (h.x.lt k q).2
      omega, h.bel.trans (hf.below (fun k hk => (h.a.lt k hk).1) h.bel.size)⟩
theorem PlSt.opX (h : PlSt w0 w gP gX mac ip m lA lX F FX) (hf : Frame FX w w') (hi : RPInv w' w0.heap.size gX mac ip l' FX') (hn : ∀ k, FX' k → FX k ∨ w.heap.size ≤ k) : PlSt w0 w' gP gX mac ip m lA l' F FX' :=
  ⟨h.a.frame hf h.dis, hi, fun k hk q => by
    rcases hn k q with r | r
    · exact h.dis k hk r
    · have := (h.a.lt k hk).2
      omega, h.bel.trans (hf.below (fun k hk => (h.x.lt k hk).1) h.bel.size)⟩
end
theorem Mac.val_inj {a b : Mac} (h : a.val = b.val) : a = b := by
  have h2 : a.cells = b.cells := by
    have := congrArg Array.toList (Value.agg.inj h)
    simpa using this
  obtain ⟨a0, a1, a2, a3, a4, a5⟩ := a
  obtain ⟨b0, b1, b2, b3, b4, b5⟩ := b
  simp only [Mac.cells, List.cons.injEq, Value.int.injEq, true_and, and_true] at h2
  obtain ⟨h0, h1, h2, h3, h4, h5⟩ := h2
  simp only [Mac.mk.injEq]
  refine ⟨UInt8.toNat_inj.1 (by omega), UInt8.toNat_inj.1 (by omega), UInt8.toNat_inj.1 (by omega), UInt8.toNat_inj.1 (by omega), UInt8.toNat_inj.1 (by omega), UInt8.toNat_inj.1 (by omega)⟩
theorem PeersInv.findAt {w : World} {base g : Nat} {mac : Mac} {ip : Nat} {l : List Peer} {m : Nat} {F : Nat → Prop} (h : PeersInv w base g mac ip l m F) (j : Nat) (hj : j < l.length) : pFind l l[j].1 = some l[j].2 ∧ l[j].1 < 4294967296 := by
  obtain ⟨vr, gM, f, h⟩ := h
  have h1 := h.found l[j].1
  rw [h.hit _ (List.getElem_mem hj)] at h1
  refine ⟨?_, (h.oks _ (List.getElem_mem hj)).1⟩
  cases e : pFind l l[j].1 with
  | none => rw [e] at h1; cases h1
  | some mm =>
    rw [e] at h1
    simp only [Option.map_some, Option.some.injEq] at h1
    rw [Mac.val_inj h1]
theorem Blk.range {w : World} {g : Nat} {t : TypeId} {cs : List Value} (h : Blk w g t cs) (o : Nat) : w.rangeAt g o (cs.drop o) := fun j v hv => by
  rw [List.getElem?_drop] at hv
  rw [h.cell (o + j)]
  exact hv
/-- a block of the law's own, apart from the peers' -/
structure Own1 (w : World) (g : Nat) (t : TypeId) (cs : List Value) (F FX : Nat → Prop) : Prop where
  blk : Blk w g t cs
  a : ¬ F g
  x : ¬ FX g
theorem Own1.keep {w w' : World} {g : Nat} {t : TypeId} {cs : List Value} {F FX : Nat → Prop} (h : Own1 w g t cs F FX) (hb : Below w.heap.size w w') : Own1 w' g t cs F FX := ⟨h.blk.keep hb, h.a, h.x⟩
theorem Own1.opA {w w' : World} {g : Nat} {t : TypeId} {cs : List Value} {F FX F' : Nat → Prop} (h : Own1 w g t cs F FX) (hf : Frame F w w') (hn : ∀ k, F' k → F k ∨ w.heap.size ≤ k) : Own1 w' g t cs F' FX :=
  ⟨hf.blk h.blk h.a, fun q => by
    rcases hn g q with r | r
    · exact h.a r
    · have := h.blk.lt
      omega, h.x⟩
theorem Own1.opX {w w' : World} {g : Nat} {t : TypeId} {cs : List Value} {F FX FX' : Nat → Prop} (h : Own1 w g t cs F FX) (hf : Frame FX w w') (hn : ∀ k, FX' k → FX k ∨ w.heap.size ≤ k) : Own1 w' g t cs F FX' :=
  ⟨hf.blk h.blk h.x, h.a, fun q => by
    rcases hn g q with r | r
    · exact h.x r
    · have := h.blk.lt
      omega⟩

set_option maxHeartbeats 8000000 in
theorem etherPeers_walk (mac : Mac) (ip : Nat) (hip : ip < 4294967296) (vq : Value) (xs : List EStep) (w : World) (hq : RowN w 22 vq xs.length (eRow xs)) (hx : ∀ s ∈ xs, s.ip < 4294967296 ∧ Bs w s.v s.f.body) :
    Calls Try.prog 5 #[mac.val, .int .u32 (ip : Int), vq] w fun e w' => e = .returned (.bool true) ∧ Below w.heap.size w w' := by
  obtain ⟨_, Aq, capq, rfl, kq1, kq2, kq3⟩ := hq
  have HQ := hid (show RowN w 22 (.slice Aq xs.length capq) xs.length (eRow xs) from ⟨by assumption, Aq, capq, rfl, kq1, kq2, kq3⟩)
  have HX := hid hx
  obtain ⟨xn, hxn⟩ : ∃ n, xs.length = n := ⟨_, rfl⟩
  have Hxn := hid hxn
  rw [hxn] at HQ
  rw [hxn]
  have Hip := hid hip
  clear hx kq1 kq2 kq3 hxn hip
  obtain ⟨a0, a1, a2, a3, a4, a5⟩ := mac
  have N1 : ∀ wx, Calls Try.prog 14 #[.agg #[.int .u8 (a0.toNat : Int), .int .u8 (a1.toNat : Int), .int .u8 (a2.toNat : Int), .int .u8 (a3.toNat : Int), .int .u8 (a4.toNat : Int), .int .u8 (a5.toNat : Int)], .int .u32 (ip : Int)] wx fun e w' => ∃ g F, e = .returned (.pointer (some ⟨g, 0, none⟩)) ∧ PeersInv w' wx.heap.size g ⟨a0, a1, a2, a3, a4, a5⟩ ip [] 0 F ∧ Below wx.heap.size wx w' := fun wx => new_any ⟨a0, a1, a2, a3, a4, a5⟩ ip wx
  have N1 := hid N1
  dsimp only [Mac.val, Mac.cells]
  go_enter Try.func5, Try.ntmps5
  go_upto_region 5 with (first
    | (go_at_call 7; refine (known_any _).mono ?_; rintro e w1 ⟨rfl, hb⟩; have Hb1 := hid ((below_alloc w (.cells #[.int .u8 (a0.toNat : Int), .int .u8 (a1.toNat : Int), .int .u8 (a2.toNat : Int), .int .u8 (a3.toNat : Int), .int .u8 (a4.toNat : Int), .int .u8 (a5.toNat : Int)] 23)).trans (hb.mono (below_alloc w (.cells #[.int .u8 (a0.toNat : Int), .int .u8 (a1.toNat : Int), .int .u8 (a2.toNat : Int), .int .u8 (a3.toNat : Int), .int .u8 (a4.toNat : Int), .int .u8 (a5.toNat : Int)] 23)).size)); have B1 := hid ((Blk.new w 23 #[.int .u8 (a0.toNat : Int), .int .u8 (a1.toNat : Int), .int .u8 (a2.toNat : Int), .int .u8 (a3.toNat : Int), .int .u8 (a4.toNat : Int), .int .u8 (a5.toNat : Int)]).keep hb); have p0 := B1.out.cell 0; have p1 := B1.out.cell 1; have p2 := B1.out.cell 2; have p3 := B1.out.cell 3; have p4 := B1.out.cell 4; have p5 := B1.out.cell 5; clear hb)
    | (go_at_call 14; refine (N1.out _).mono ?_; rintro e w2 ⟨gP, F, rfl, hA, hb⟩; have HA := hid hA; have Hb2 := hid hb; have B2 := hid (B1.out.keep hb); clear hA hb p0 p1 p2 p3 p4 p5; have p0 := B2.out.cell 0; have p1 := B2.out.cell 1; have p2 := B2.out.cell 2; have p3 := B2.out.cell 3; have p4 := B2.out.cell 4; have p5 := B2.out.cell 5))
  have S3 := hid (show PlSt w (w2.alloc (.cells #[.int .u8 (a0.toNat : Int), .int .u8 (a1.toNat : Int), .int .u8 (a2.toNat : Int), .int .u8 (a3.toNat : Int), .int .u8 (a4.toNat : Int), .int .u8 (a5.toNat : Int), .int .u32 (ip : Int), .slice none 0 0] 47)) gP w2.heap.size ⟨a0, a1, a2, a3, a4, a5⟩ ip 0 [] [] F (fun k => k = w2.heap.size) from
    ⟨(HA.out.keep (below_alloc _ _)).mono Hb1.out.size (Nat.le_refl _), ⟨.slice none 0 0, Blk.new w2 47 #[.int .u8 (a0.toNat : Int), .int .u8 (a1.toNat : Int), .int .u8 (a2.toNat : Int), .int .u8 (a3.toNat : Int), .int .u8 (a4.toNat : Int), .int .u8 (a5.toNat : Int), .int .u32 (ip : Int), .slice none 0 0], RowAtS.nil _ _ _ _, by simp, rfl, fun k hk => by simp [Value.ownBlock] at hk, fun k hk => by have h1 := Hb1.out.size; have h2 := Hb2.out.size; subst hk; simp; omega⟩, fun k hk q => by have := (HA.out.lt k hk).2; omega, (Hb1.out.trans (Hb2.out.mono Hb1.out.size)).trans ((below_alloc w2 _).mono (Nat.le_trans Hb1.out.size Hb2.out.size))⟩)
  clear N1 HA Hb1 Hb2 B1 B2 p0 p1 p2 p3 p4 p5
  generalize w2.alloc (.cells #[.int .u8 (a0.toNat : Int), .int .u8 (a1.toNat : Int), .int .u8 (a2.toNat : Int), .int .u8 (a3.toNat : Int), .int .u8 (a4.toNat : Int), .int .u8 (a5.toNat : Int), .int .u32 (ip : Int), .slice none 0 0] 47) = w3 at *
  generalize w2.heap.size = gX at *
  go_upto_region 8 with fail
  go_loopw [9] (fun i wr => ∃ (k m : Nat) (l : List Peer) (F FX : Nat → Prop), k ≤ 60 ∧ i = .int .i64 (k : Int) ∧ m ≤ k ∧ PlSt w wr gP gX ⟨a0, a1, a2, a3, a4, a5⟩ ip m l l F FX) (fun i _ => 60 - (intOf i).toNat)
  case atStart => exact ⟨0, 0, [], _, _, by omega, rfl, by omega, S3.out⟩
  case round =>
    obtain ⟨k, m, l, F, FX, hk60, rfl, hm, hS⟩ := hrel
    clear S3
    have HS := hid hS
    have Hm := hid hm
    by_cases hkl : k < xn ∧ k < 60
    case neg =>
      have t1 : (k : Int) < (xn : Int) ∧ ¬ (k : Int) < 60 ∨ ¬ (k : Int) < (xn : Int) := by omega
      rcases t1 with ⟨t1, t2⟩ | t1
      · go_wp2_with fail
        go_ret
        exact ⟨rfl, HS.out.bel⟩
      · go_wp2_with fail
        go_ret
        exact ⟨rfl, HS.out.bel⟩
    case pos =>
      obtain ⟨hkl1, hkl2⟩ := hkl
      have t1 : (k : Int) < (xn : Int) := by omega
      have t2 : (k : Int) < 60 := by omega
      have hk1 : IntKind.i64.wrap ((k : Int) + 1) = ((k + 1 : Nat) : Int) := by rw [IntWalk.i64_in _ (by omega)]; omega
      obtain ⟨_, A', cap', hv', _, _, hA⟩ := HQ.out.below hS.bel
      injection hv' with e1 _ e2
      subst e1; subst e2
      obtain ⟨gb, off, rfl, hcell⟩ := hA.resolve_left (by omega)
      have hkx : k < xs.length := by rw [Hxn.out]; exact hkl1
      have hcx := fun f (hf : f < 22) y (hy : xs[k].cells[f]? = some y) => hcell (k * 22 + f) y ((eRow_at xs k f hkx hf).trans hy)
      obtain ⟨hsip, hsb⟩ := HX.out xs[k] (List.getElem_mem hkx)
      generalize xs[k] = s at hcx hsip hsb
      obtain ⟨n, hn⟩ : ∃ n, s.f.body.length = n := ⟨_, rfl⟩
      obtain ⟨A, cap, hsv⟩ := slice_len hsb hn
      obtain ⟨kind, hkd⟩ : ∃ x, s.kind = x := ⟨_, rfl⟩
      obtain ⟨x, hxx⟩ : ∃ x, s.ip = x := ⟨_, rfl⟩
      obtain ⟨m0, m1, m2, m3, m4, m5, hmc⟩ : ∃ m0 m1 m2 m3 m4 m5, s.mac.cells = [m0, m1, m2, m3, m4, m5] := ⟨_, _, _, _, _, _, rfl⟩
      obtain ⟨f0, f1, f2, f3, f4, f5, f6, f7, f8, f9, f10, f11, hfc⟩ : ∃ f0 f1 f2 f3 f4 f5 f6 f7 f8 f9 f10 f11, s.f.cells (.slice A n cap) = [f0, f1, f2, f3, f4, f5, f6, f7, f8, f9, f10, f11, .int .i64 s.f.kind, .slice A n cap] := ⟨_, _, _, _, _, _, _, _, _, _, _, _, rfl⟩
      unfold EStep.cells at hcx
      rw [hsv, hkd, hxx, hmc, hfc] at hcx
      rw [hsv] at hsb
      rw [hxx] at hsip
      have Hsb := hid hsb
      have Hn := hid hn
      have Hsip := hid hsip
      have hmv : s.mac.val = .agg #[m0, m1, m2, m3, m4, m5] := by unfold Mac.val; rw [hmc]
      have Hmv := hid hmv
      have Hfc := hid (show FrmC s.f (.slice A n cap) f0 f1 f2 f3 f4 f5 f6 f7 f8 f9 f10 f11 (.int .i64 s.f.kind) (.slice A n cap) from hfc.symm)
      have Hone := EStep.one s A n cap hsv
      unfold EStep.cells at Hone
      rw [hsv, hkd, hxx, hmc, hfc] at Hone
      have Hone : [.int .i64 kind, .int .u32 (x : Int), m0, m1, m2, m3, m4, m5, f0, f1, f2, f3, f4, f5, f6, f7, f8, f9, f10, f11, .int .i64 s.f.kind, .slice A n cap].all (·.oneCell') = true := Hone
      have Hone := hid Hone
      have Hrange := hid (show wr.rangeAt gb (off + k * 22) [.int .i64 kind, .int .u32 (x : Int), m0, m1, m2, m3, m4, m5, f0, f1, f2, f3, f4, f5, f6, f7, f8, f9, f10, f11, .int .i64 s.f.kind, .slice A n cap] from fun j y hy => by
        have hj : j < 22 := by have := (List.getElem?_eq_some_iff.1 hy).1; exact this
        rw [Nat.add_assoc]
        exact hcx j hj y hy)
      clear hcell hcx hA hn hsv hkd hxx hmc hfc hsb hsip hmv hkx hkl1 hkl2 hm hS
      go_upto_region 11 with (first | ((with_reducible show wpList _ _ _ (Oper.mk (some 47) _ _ _ _ _ :: _) _ _); refine wpList_load_mid rfl _ _ rfl gb (off + k * 22) rfl _ _ Hrange.out Try.underlying49 rfl estepinfo ?_) | ((with_reducible show wpList _ _ _ (Oper.mk none _ _ _ _ _ :: _) _ _); refine wpList_storeBlk rfl _ _ _ rfl _ _ rfl rfl _ _ (Blk.new _ _ _) estepinfo rfl Hone.out ?_; intro w4 hblk hg hsz; have S4 := hid (HS.out.keep (below_new_store hg)); have O4 := hid (show Own1 w4 wr.heap.size 49 _ F FX from ⟨hblk, fun q => by have := (HS.out.a.lt _ q).2; omega, fun q => by have := (HS.out.x.lt _ q).2; omega⟩); clear hblk hg hsz; (try simp only [Act.put])))
      obtain ⟨gs, hgs⟩ : ∃ g, wr.heap.size = g := ⟨_, rfl⟩
      rw [hgs] at O4 ⊢
      clear hgs HS Hone Hrange
      have d21 : w4.cell? ⟨gs, 21, none⟩ = some (.slice A n cap) := O4.out.blk.cell 21
      by_cases hbig : n > 2000
      · have hbI : (n : Int) > 2000 := by omega
        go_wp2_with fail
        go_roundw
        case rel => exact ⟨k + 1, m, l, F, FX, by omega, rfl, by have := Hm.out; omega, S4.out⟩
        case measure => simp [intOf]; omega
      have hbI : ¬ (n : Int) > 2000 := by omega
      have d0 : w4.cell? ⟨gs, 0, none⟩ = some (.int .i64 kind) := O4.out.blk.cell 0
      go_upto_block 2 with fail
      clear d21
      go_cut [11, 12, 13, 14] from 53 to 109 (fun _ _ _ _ wx => ∃ (m' : Nat) (l2 : List Peer) (F2 FX2 : Nat → Prop), m' ≤ m + 1 ∧ PlSt w wx gP gX ⟨a0, a1, a2, a3, a4, a5⟩ ip m' l2 l2 F2 FX2 ∧ Own1 wx gs 49 [.int .i64 kind, .int .u32 (x : Int), m0, m1, m2, m3, m4, m5, f0, f1, f2, f3, f4, f5, f6, f7, f8, f9, f10, f11, .int .i64 s.f.kind, .slice A n cap] F2 FX2)
      case rest =>
        obtain ⟨m2, l2, F2, FX2, hm2, hP, hO⟩ := hcut
        have P2 := hid hP
        have O2 := hid hO
        have Hm2 := hid hm2
        clear hP hO hm2 S4 O4
        obtain ⟨ln, hln⟩ : ∃ t, l2.length = t := ⟨_, rfl⟩
        have HK := known_list _ gP _ ip l2 m2 F2 wc P2.out.a
        rw [hln] at HK
        have HK := hid HK
        have Hln := hid hln
        have Hln16 := hid (show ln ≤ 16 by rw [← hln]; exact P2.out.a.len)
        clear hln d0
        go_step
        go_upto_region 25 with (go_at_call 21; refine HK.out.mono ?_; rintro e w5 ⟨v5, rfl, hown, hb⟩; have P5 := hid (P2.out.keep hb); have O5 := hid (O2.out.keep hb); have R5 := hid (RowN.of_own hown); clear hown hb)
        clear HK P2 O2
        obtain ⟨_, A5, cap5, rfl, _, _, _⟩ := R5.out
        obtain ⟨vL, hX⟩ := P5.out.x
        obtain ⟨AL, capL, rfl⟩ := hX.row.slice
        have hc7 : w5.cell? ⟨gX, 7, none⟩ = some (.slice AL ln capL) := by have := hX.tab.cell 7; rw [Hln.out] at this; exact this
        have RX := hid hX.row.rowN
        rw [Hln.out] at RX
        have C7 := hid hc7
        clear hX
        go_upto_region 28 with fail
        clear hc7
        go_loopw [16] (fun i wl => ∃ j : Nat, j ≤ ln ∧ i = .int .i64 (j : Int) ∧ Below w5.heap.size w5 wl) (fun i _ => ln - (intOf i).toNat)
        case atStart => exact ⟨0, by omega, rfl, Below.refl _ _⟩
        case round =>
          obtain ⟨j, hj, rfl, hbl⟩ := hrel
          have Hbl := hid hbl
          clear hbl
          generalize wr = wl at *
          by_cases hlt : j < ln
          · have t3 : (j : Int) < (ln : Int) := by omega
            obtain ⟨_, A', cap', hv', _, _, hA⟩ := R5.out.below Hbl.out
            injection hv' with e1 e9 e2
            subst e1; subst e2
            obtain ⟨_, A'', cap'', hv', _, _, hA2⟩ := RX.out.below Hbl.out
            injection hv' with e1 e9 e2
            subst e1; subst e2
            obtain ⟨gl, ol, rfl, hc1⟩ := hA.resolve_left (by omega)
            obtain ⟨gr, ofr, rfl, hc2⟩ := hA2.resolve_left (by omega)
            have hjl : j < l2.length := by rw [Hln.out]; exact hlt
            obtain ⟨hfind, hyl⟩ := P5.out.a.findAt j hjl
            have y0 := hc1 j (ipV l2[j]) (by rw [List.getElem?_map, List.getElem?_eq_getElem hjl]; rfl)
            have hcz := fun f (hf : f < 7) y (hy : (pCells l2[j])[f]? = some y) => hc2 (j * 7 + f) y ((pRow_at l2 j f hjl hf).trans hy)
            generalize l2[j] = pr at *
            obtain ⟨y, b0, b1, b2, b3, b4, b5⟩ := pr
            unfold ipV at y0
            dsimp only at y0 hfind hyl
            have x0 : wl.cell? ⟨gr, ofr + j * 7, none⟩ = some (.int .u32 (y : Int)) := (by rw [← Nat.add_zero (j * 7)]; exact hcz 0 (by decide) _ rfl)
            have x1 : wl.cell? ⟨gr, ofr + j * 7 + 1, none⟩ = some (.int .u8 (b0.toNat : Int)) := (by rw [Nat.add_assoc]; exact hcz 1 (by decide) _ rfl)
            have x2 : wl.cell? ⟨gr, ofr + j * 7 + 1 + 1, none⟩ = some (.int .u8 (b1.toNat : Int)) := (by rw [Nat.add_assoc, Nat.add_assoc]; exact hcz 2 (by decide) _ rfl)
            have x3 : wl.cell? ⟨gr, ofr + j * 7 + 1 + 2, none⟩ = some (.int .u8 (b2.toNat : Int)) := (by rw [Nat.add_assoc, Nat.add_assoc]; exact hcz 3 (by decide) _ rfl)
            have x4 : wl.cell? ⟨gr, ofr + j * 7 + 1 + 3, none⟩ = some (.int .u8 (b3.toNat : Int)) := (by rw [Nat.add_assoc, Nat.add_assoc]; exact hcz 4 (by decide) _ rfl)
            have x5 : wl.cell? ⟨gr, ofr + j * 7 + 1 + 4, none⟩ = some (.int .u8 (b4.toNat : Int)) := (by rw [Nat.add_assoc, Nat.add_assoc]; exact hcz 5 (by decide) _ rfl)
            have x6 : wl.cell? ⟨gr, ofr + j * 7 + 1 + 5, none⟩ = some (.int .u8 (b5.toNat : Int)) := (by rw [Nat.add_assoc, Nat.add_assoc]; exact hcz 6 (by decide) _ rfl)
            have hj1 : IntKind.i64.wrap ((j : Int) + 1) = ((j + 1 : Nat) : Int) := by rw [IntWalk.i64_in _ (by have := Hln16.out; omega)]; omega
            have HF : Calls Try.prog 22 #[.pointer (some ⟨gP, 0, none⟩), .int .u32 (y : Int)] wl fun e w' => e = .returned (.tuple #[.agg #[.int .u8 (b0.toNat : Int), .int .u8 (b1.toNat : Int), .int .u8 (b2.toNat : Int), .int .u8 (b3.toNat : Int), .int .u8 (b4.toNat : Int), .int .u8 (b5.toNat : Int)], .bool true]) ∧ Below wl.heap.size wl w' := find_at _ gP _ ip l2 m2 F2 y ⟨b0, b1, b2, b3, b4, b5⟩ hyl wl (P5.out.a.keep Hbl.out) hfind
            have HF := hid HF
            have e1 : ∀ wx, (Op.equalIn 10000 23 (.agg #[.int .u8 (b0.toNat : Int), .int .u8 (b1.toNat : Int), .int .u8 (b2.toNat : Int), .int .u8 (b3.toNat : Int), .int .u8 (b4.toNat : Int), .int .u8 (b5.toNat : Int)]) (.agg #[.int .u8 (b0.toNat : Int), .int .u8 (b1.toNat : Int), .int .u8 (b2.toNat : Int), .int .u8 (b3.toNat : Int), .int .u8 (b4.toNat : Int), .int .u8 (b5.toNat : Int)])).run Try.prog wx = .ok true wx := fun wx => run_mac_same ⟨b0, b1, b2, b3, b4, b5⟩ wx
            have HC := hid (And.intro y0 (And.intro x0 (And.intro x1 (And.intro x2 (And.intro x3 (And.intro x4 (And.intro x5 x6)))))))
            have E1 := hid e1
            have Hj1 := hid hj1
            clear hA hA2 hc1 hc2 hcz hjl hfind hyl x0 x1 x2 x3 x4 x5 x6 e1 hj1
            go_upto_region 31 with (first
              | (go_at_call 22; refine HF.out.mono ?_; rintro e w7 ⟨rfl, hb⟩; have Hb7 := hid hb; clear hb)
              | ((with_reducible show wpList _ _ _ (Oper.mk none _ _ _ _ _ :: _) _ _); refine wpList_storeBlk rfl _ _ _ rfl _ _ rfl rfl _ _ (Blk.new _ _ _) macinfo rfl rfl ?_; intro w8 hblk hg hsz; have Hb8 := hid (Hb7.out.trans ((below_new_store hg).mono Hb7.out.size)); have B8 := hid hblk; clear hblk hg hsz))
            have k0 := B8.out.cell 0
            have k1 := B8.out.cell 1
            have k2 := B8.out.cell 2
            have k3 := B8.out.cell 3
            have k4 := B8.out.cell 4
            have k5 := B8.out.cell 5
            have c7 := cell_below Hb8.out (cell_below Hbl.out C7.out)
            obtain ⟨y0, x0, x1, x2, x3, x4, x5, x6⟩ := HC.out
            have y0 := cell_below Hb8.out y0
            have x0 := cell_below Hb8.out x0
            have x1 := cell_below Hb8.out x1
            have x2 := cell_below Hb8.out x2
            have x3 := cell_below Hb8.out x3
            have x4 := cell_below Hb8.out x4
            have x5 := cell_below Hb8.out x5
            have x6 := cell_below Hb8.out x6
            have e1 := E1.out
            have hj1 := Hj1.out
            have hyb : ((y : Int) != (y : Int)) = false := by simp
            have Hb9 := hid (Hbl.out.trans (Hb8.out.mono Hbl.out.size))
            go_quiet (fail)
            go_wp2_with fail
            go_roundw
            case rel => exact ⟨j + 1, by omega, rfl, below_drewN Hb9.out _⟩
            case measure => simp [intOf]; omega
          · obtain rfl : j = ln := by omega
            have t3 : ¬ (j : Int) < (j : Int) := by omega
            have P6 := hid (P5.out.keep Hbl.out)
            have d1 : wl.cell? ⟨gs, 1, none⟩ = some (.int .u32 (x : Int)) := (O5.out.keep Hbl.out).blk.cell 1
            have O6 := hid (O5.out.keep Hbl.out)
            have hFA := find_any _ gP _ ip l2 m2 F2 x Hsip.out wl P6.out.a
            have hFX := fun wy (h : RPInv wy w.heap.size gX ⟨a0, a1, a2, a3, a4, a5⟩ ip l2 FX2) => rfind_any _ gX _ ip l2 FX2 x wy h
            unfold FindPost at hFA hFX
            obtain ⟨⟨d0, d1', d2, d3, d4, d5⟩, hd⟩ : ∃ t, (pFind l2 x).getD .zero = t := ⟨_, rfl⟩
            obtain ⟨bo, hbo⟩ : ∃ t, (pFind l2 x).isSome = t := ⟨_, rfl⟩
            rw [hd, hbo] at hFA hFX
            dsimp only [Mac.val, Mac.cells] at hFA hFX
            have HFA := hid hFA
            have HFX := hid hFX
            have e1 := fun wx => run_mac_same ⟨d0, d1', d2, d3, d4, d5⟩ wx
            dsimp only [Mac.val, Mac.cells] at e1
            have E1 := hid e1
            clear hFA hFX hd hbo e1
            clear O5 P5 C7
            go_upto_region 34 with (first
              | (go_at_call 22; refine HFA.out.mono ?_; rintro e w7 ⟨rfl, hb⟩; have P7 := hid (P6.out.keep hb); have O7 := hid (O6.out.keep hb); clear hb)
              | ((with_reducible show wpList _ _ _ (Oper.mk none (Op.store _ (Operand.tmp 19) _) _ _ _ _ :: _) _ _); refine wpList_storeBlk rfl _ _ _ rfl _ _ rfl rfl _ _ (Blk.new _ _ _) macinfo rfl rfl ?_; intro w8 hblk hg hsz; have P8 := hid (P7.out.keep (below_new_store hg)); have O8 := hid (O7.out.keep (below_new_store hg)); have B8 := hid hblk; clear hblk hg hsz))
            clear d1 P6 O6 P7 O7
            have d1 : w8.cell? ⟨gs, 1, none⟩ = some (.int .u32 (x : Int)) := O8.out.blk.cell 1
            go_upto_region 35 with (first
              | (go_at_call 23; refine (HFX.out _ P8.out.x).mono ?_; rintro e w9 ⟨rfl, hb⟩; have P9 := hid (P8.out.keep hb); have B9 := hid (B8.out.keep hb); clear hb)
              | ((with_reducible show wpList _ _ _ (Oper.mk none (Op.store _ (Operand.tmp 21) _) _ _ _ _ :: _) _ _); refine wpList_storeBlk rfl _ _ _ rfl _ _ rfl rfl _ _ (Blk.new _ _ _) macinfo rfl rfl ?_; intro w10 hblk hg hsz; have P10 := hid (P9.out.keep (below_new_store hg)); have B10 := hid (B9.out.keep (below_new_store hg)); have D10 := hid hblk; clear hblk hg hsz))
            clear d1 P8 P9 O8 B8 B9
            have p0 := B10.out.cell 0; have p1 := B10.out.cell 1; have p2 := B10.out.cell 2; have p3 := B10.out.cell 3; have p4 := B10.out.cell 4; have p5 := B10.out.cell 5;
            have q0 := D10.out.cell 0; have q1 := D10.out.cell 1; have q2 := D10.out.cell 2; have q3 := D10.out.cell 3; have q4 := D10.out.cell 4; have q5 := D10.out.cell 5;
            have e1 := E1.out
            have hk1 : IntKind.i64.wrap ((k : Int) + 1) = ((k + 1 : Nat) : Int) := by rw [IntWalk.i64_in _ (by omega)]; omega
            cases bo
            all_goals
              go_wp2_with fail
              go_roundw
              case rel => exact ⟨k + 1, m2, l2, F2, FX2, by omega, rfl, by have := Hm2.out; have := Hm.out; omega, P10.out⟩
              case measure => simp [intOf]; omega
      case first =>
        by_cases hk1 : kind = 1
        · subst hk1
          have HLA : ∀ wy, PeersInv wy w.heap.size gP ⟨a0, a1, a2, a3, a4, a5⟩ ip l m F → Calls Try.prog 15 #[.pointer (some ⟨gP, 0, none⟩), .int .u32 (x : Int), .agg #[m0, m1, m2, m3, m4, m5]] wy fun e w' => (∃ u, e = .returned u) ∧ ∃ F', PeersInv w' w.heap.size gP ⟨a0, a1, a2, a3, a4, a5⟩ ip (pLearn l x s.mac) (m + 1) F' ∧ Frame F wy w' ∧ ∀ k, F' k → F k ∨ wy.heap.size ≤ k := fun wy h => by rw [← Hmv.out]; exact learn_any _ gP _ ip l m F x Hsip.out s.mac wy h (by have := Hm.out; omega)
          have HLX : ∀ wy, w.heap.size ≤ wy.heap.size → RPInv wy w.heap.size gX ⟨a0, a1, a2, a3, a4, a5⟩ ip l FX → Calls Try.prog 16 #[.pointer (some ⟨gX, 0, none⟩), .int .u32 (x : Int), .agg #[m0, m1, m2, m3, m4, m5]] wy (RLearnPost w.heap.size gX ⟨a0, a1, a2, a3, a4, a5⟩ ip l FX x s.mac wy) := fun wy hb h => by rw [← Hmv.out]; exact rlearn_any _ gX _ ip l FX x s.mac wy h hb
          have HLA := hid HLA
          have HLX := hid HLX
          clear d0
          have hbk := O4.out.blk
          have d0 := hbk.cell 0; have d1 := hbk.cell 1; have d2 := hbk.cell 2; have d3 := hbk.cell 3; have d4 := hbk.cell 4; have d5 := hbk.cell 5; have d6 := hbk.cell 6; have d7 := hbk.cell 7; clear hbk
          go_wp2_with (first
            | (go_at_call 15; (refine (HLA.out _ S4.out.a).mono ?_); rintro e w5 ⟨⟨u5, rfl⟩, F5, hi, hf, hn⟩; have S5 := hid (S4.out.opA hf hi hn); have O5 := hid (O4.out.opA hf hn); clear hi hf hn d0 d1 d2 d3 d4 d5 d6 d7; have hbk := O5.out.blk; have d0 := hbk.cell 0; have d1 := hbk.cell 1; have d2 := hbk.cell 2; have d3 := hbk.cell 3; have d4 := hbk.cell 4; have d5 := hbk.cell 5; have d6 := hbk.cell 6; have d7 := hbk.cell 7; clear hbk)
            | (go_at_call 16; (refine (HLX.out _ S5.out.bel.size S5.out.x).mono ?_); rintro e w6 ⟨⟨u6, rfl⟩, FX6, hi, hf, hn⟩; have S6 := hid (S5.out.opX hf hi hn); have O6 := hid (O5.out.opX hf hn); clear hi hf hn d0 d1 d2 d3 d4 d5 d6 d7))
          go_meet
          case rel => exact ⟨m + 1, _, F5, FX6, Nat.le_refl _, S6.out, O6.out⟩
        have hk1a : ¬ kind = 1 := hk1
        have hk1b : (kind == 1) = false := by simpa using hk1
        by_cases hk2 : kind = 2
        · subst hk2
          clear hk1a hk1b hk1
          obtain ⟨tl, htl⟩ : ∃ t, hearTell ⟨a0, a1, a2, a3, a4, a5⟩ ip s.f = t := ⟨_, rfl⟩
          obtain ⟨code, hcode⟩ : ∃ t, hearCode ip s.f = t := ⟨_, rfl⟩
          obtain ⟨l2, hl2⟩ : ∃ t, hearList ip l s.f = t := ⟨_, rfl⟩
          obtain ⟨q, hq⟩ : ∃ t, tl.length = t := ⟨_, rfl⟩
          have hval : s.f.val (.slice A n cap) = .agg #[f0, f1, f2, f3, f4, f5, f6, f7, f8, f9, f10, f11, .int .i64 s.f.kind, .slice A n cap] := by unfold Frm.val; rw [← Hfc.out]
          have HHA : ∀ wy, PeersInv wy w.heap.size gP ⟨a0, a1, a2, a3, a4, a5⟩ ip l m F → Bs wy (.slice A n cap) s.f.body → Calls Try.prog 17 #[.pointer (some ⟨gP, 0, none⟩), .agg #[f0, f1, f2, f3, f4, f5, f6, f7, f8, f9, f10, f11, .int .i64 s.f.kind, .slice A n cap]] wy fun e w' => ∃ v', e = .returned (.tuple #[v', .int .i64 code]) ∧ OwnBs w' wy.heap.size 5 v' tl ∧ ∃ F', PeersInv w' w.heap.size gP ⟨a0, a1, a2, a3, a4, a5⟩ ip l2 (m + 1) F' ∧ Frame F wy w' ∧ (∀ k, F' k → F k ∨ wy.heap.size ≤ k) ∧ ∀ k, v'.ownBlock = some k → ¬ F' k := fun wy h hb => by
            have := hear_any _ gP _ ip Hip.out l m F s.f A n cap wy h (by have := Hm.out; omega) hb (by omega)
            unfold HearPost at this
            rw [htl, hcode, hl2, hval] at this
            exact this
          have HHX : ∀ wy, w.heap.size ≤ wy.heap.size → RPInv wy w.heap.size gX ⟨a0, a1, a2, a3, a4, a5⟩ ip l FX → Bs wy (.slice A n cap) s.f.body → Calls Try.prog 18 #[.pointer (some ⟨gX, 0, none⟩), .agg #[f0, f1, f2, f3, f4, f5, f6, f7, f8, f9, f10, f11, .int .i64 s.f.kind, .slice A n cap]] wy fun e w' => ∃ v', e = .returned (.tuple #[v', .int .i64 code]) ∧ OwnBs w' wy.heap.size 5 v' tl ∧ ∃ FX', RPInv w' w.heap.size gX ⟨a0, a1, a2, a3, a4, a5⟩ ip l2 FX' ∧ Frame FX wy w' ∧ (∀ k, FX' k → FX k ∨ wy.heap.size ≤ k) ∧ ∀ k, v'.ownBlock = some k → ¬ FX' k := fun wy hw h hb => by
            have := rhear_any _ gX _ ip Hip.out l FX s.f A n cap wy h hw hb (by omega)
            unfold RHearPost at this
            rw [htl, hcode, hl2, hval] at this
            exact this
          have HHA := hid HHA
          have HHX := hid HHX
          have Hql := hid hq
          clear htl hcode hl2 hq hval d0
          go_wp2_with (first
            | ((with_reducible show wpList _ _ _ (Oper.mk (some 74) _ _ _ _ _ :: _) _ _); refine wpList_load_mid rfl _ _ rfl gs 8 rfl [f0, f1, f2, f3, f4, f5, f6, f7, f8, f9, f10, f11, .int .i64 s.f.kind, .slice A n cap] _ (O4.out.blk.range 8) Try.underlying25 rfl eframeinfo ?_)
            | (go_at_call 17; (refine (HHA.out _ S4.out.a (Hsb.out.below S4.out.bel)).mono ?_); rintro e w5 ⟨v5, rfl, hown, F5, hi, hf, hn, hx⟩; have S5 := hid (S4.out.opA hf hi hn); have O5 := hid (O4.out.opA hf hn); obtain ⟨A5, cap5, rfl⟩ := slice_len hown.bs Hql.out; have V5 := hid hown; have N5 := hid (show ∀ k, (Value.slice A5 q cap5).ownBlock = some k → ¬ FX k from fun k hk r => by have := own_ge hown hk; have := (S4.out.x.lt k r).2; omega); clear hown hi hf hn hx)
            | ((with_reducible show wpList _ _ _ (Oper.mk (some 81) _ _ _ _ _ :: _) _ _); refine wpList_load_mid rfl _ _ rfl gs 8 rfl [f0, f1, f2, f3, f4, f5, f6, f7, f8, f9, f10, f11, .int .i64 s.f.kind, .slice A n cap] _ (O5.out.blk.range 8) Try.underlying25 rfl eframeinfo ?_)
            | (go_at_call 12; (refine (theirs_of Hfc.out _).mono ?_); rintro e w6 ⟨rfl, hb⟩; have S6 := hid (S5.out.keep hb); have O6 := hid (O5.out.keep hb); have V6 := hid (V5.out.below hb); clear hb)
            | (go_at_call 18; (refine (HHX.out _ S6.out.bel.size S6.out.x (Hsb.out.below S6.out.bel)).mono ?_); rintro e w7 ⟨v7, rfl, hown, FX7, hi, hf, hn, hx⟩; have S7 := hid (S6.out.opX hf hi hn); have O7 := hid (O6.out.opX hf hn); obtain ⟨A7, cap7, rfl⟩ := slice_len hown.bs Hql.out; have s1 := run_str Try.underlying22 Try.underlying5 Try.underlying9 (OwnBs.bs (hf.own V6.out N5.out)); have s2 := run_str Try.underlying22 Try.underlying5 Try.underlying9 hown.bs; clear hown hi hf hn hx))
          go_meet
          case rel => exact ⟨m + 1, l2, F5, FX7, Nat.le_refl _, S7.out, O7.out⟩
        have hk2a : ¬ kind = 2 := hk2
        have hk2b : (kind == 2) = false := by simpa using hk2
        by_cases hk3 : kind = 3
        · subst hk3
          clear hk1a hk1b hk1 hk2 hk2a hk2b
          obtain ⟨fr, hfr⟩ : ∃ t, arpFrame .all 1 ⟨a0, a1, a2, a3, a4, a5⟩ ip .zero x = t := ⟨_, rfl⟩
          obtain ⟨q, hq⟩ : ∃ t, fr.length = t := ⟨_, rfl⟩
          have HAA : ∀ wy, PeersInv wy w.heap.size gP ⟨a0, a1, a2, a3, a4, a5⟩ ip l m F → Calls Try.prog 19 #[.pointer (some ⟨gP, 0, none⟩), .int .u32 (x : Int)] wy fun e w' => ∃ v', e = .returned v' ∧ OwnBs w' wy.heap.size 5 v' fr ∧ Below wy.heap.size wy w' := fun wy h => by rw [← hfr]; exact ask_any _ gP _ ip Hip.out l m F x Hsip.out wy h
          have HXA : ∀ wy, RPInv wy w.heap.size gX ⟨a0, a1, a2, a3, a4, a5⟩ ip l FX → Calls Try.prog 20 #[.pointer (some ⟨gX, 0, none⟩), .int .u32 (x : Int)] wy fun e w' => ∃ v', e = .returned v' ∧ OwnBs w' wy.heap.size 5 v' fr ∧ Below wy.heap.size wy w' := fun wy h => by rw [← hfr]; exact rask_any _ gX _ ip Hip.out l FX x Hsip.out wy h
          have HAA := hid HAA
          have HXA := hid HXA
          have Hfl := hid hq
          have cS : w4.cell? ⟨gs, 1, none⟩ = some (.int .u32 (x : Int)) := O4.out.blk.cell 1
          clear hfr hq
          go_upto_region 22 with fail
          clear d0
          (refine wp_region_held_drew (S := fun wy => wy.cell? ⟨gs, 1, none⟩ = some (.int .u32 (x : Int))) (by kernel_rfl) (by first | exact cell_below Hb6.out cS | exact cell_below Hb5.out cS | exact cell_below (below_drew w4) cS) (fun _ => ?_))
          (refine wpAnyH_take (i := 0) (v := .pointer (some ⟨gP, 0, none⟩)) rfl (by kernel_rfl) (by kernel_rfl) (by kernel_rfl) (fun _ _ _ h => h) (Or.inl ⟨by rfl, by intro wq hSw; go_simp⟩) (by first | exact cell_below Hb6.out cS | exact cell_below Hb5.out cS | exact cell_below (below_drew w4) cS) ?_; (try simp only [Act.put, List.setIfInBounds_toArray]))
          (refine wpAnyH_take (i := 1) (v := .pointer (some ⟨gs, 1, none⟩)) rfl (by kernel_rfl) (by kernel_rfl) (by kernel_rfl) (fun _ _ _ h => h) (Or.inl ⟨by rfl, by intro wq hSw; go_simp⟩) (by first | exact cell_below Hb6.out cS | exact cell_below Hb5.out cS | exact cell_below (below_drew w4) cS) ?_; (try simp only [Act.put]))
          (refine wpAnyH_take (i := 2) (v := .int .u32 (x : Int)) rfl (by kernel_rfl) (by kernel_rfl) (by kernel_rfl) (fun _ _ _ h => h) (Or.inl ⟨by rfl, by intro wq hSw; go_simp⟩) (by first | exact cell_below Hb6.out cS | exact cell_below Hb5.out cS | exact cell_below (below_drew w4) cS) ?_; (try simp only [Act.put]))
          (refine wpAnyH_take (i := 5) (v := .pointer (some ⟨gX, 0, none⟩)) rfl (by kernel_rfl) (by kernel_rfl) (by kernel_rfl) (fun _ _ _ h => h) (Or.inl ⟨by rfl, by intro wq hSw; go_simp⟩) (by first | exact cell_below Hb6.out cS | exact cell_below Hb5.out cS | exact cell_below (below_drew w4) cS) ?_; (try simp only [Act.put]))
          (refine wpAnyH_take (i := 6) (v := .pointer (some ⟨gs, 1, none⟩)) rfl (by kernel_rfl) (by kernel_rfl) (by kernel_rfl) (fun _ _ _ h => h) (Or.inl ⟨by rfl, by intro wq hSw; go_simp⟩) (by first | exact cell_below Hb6.out cS | exact cell_below Hb5.out cS | exact cell_below (below_drew w4) cS) ?_; (try simp only [Act.put]))
          (refine wpAnyH_take (i := 7) (v := .int .u32 (x : Int)) rfl (by kernel_rfl) (by kernel_rfl) (by kernel_rfl) (fun _ _ _ h => h) (Or.inl ⟨by rfl, by intro wq hSw; go_simp⟩) (by first | exact cell_below Hb6.out cS | exact cell_below Hb5.out cS | exact cell_below (below_drew w4) cS) ?_; (try simp only [Act.put]))
          (refine wpAnyH_ready (rs := [3]) (by kernel_rfl) (by simp) ?_; refine AllReadyH.cons rfl (fun K hK => ?_) AllReadyH.nil; go_simp)
          (go_at_call 19; (with_reducible refine (HAA.out _ (by first | exact S4.out.a | exact S4.out.a.keep (below_drew _))).mono ?_); rintro e w5 ⟨v5, rfl, hown, hb⟩; have Hb5 := hid (show Below w4.heap.size w4 w5 from by first | exact hb | exact first_below hb); have S5 := hid (S4.out.keep Hb5.out); obtain ⟨A5, cap5, rfl⟩ := slice_len hown.bs Hfl.out; have B5 := hid hown.bs; have s1 := run_str Try.underlying22 Try.underlying5 Try.underlying9 hown.bs; clear hown hb)
          (refine hK.out _ _ (by first | exact cell_below Hb6.out cS | exact cell_below Hb5.out cS | exact cell_below (below_drew w4) cS) (fun _ => ?_); clear hK K; (try simp only [Act.put, List.setIfInBounds_toArray, List.set_cons_zero, List.set_cons_succ]))
          (refine wpAnyH_ready (rs := [4, 8]) (by kernel_rfl) (by simp) ?_; refine AllReadyH.cons rfl (fun K hK => ?_) (AllReadyH.cons rfl (fun K hK => ?_) AllReadyH.nil) <;> go_simp)
          · (refine hK.out _ _ (by first | exact cell_below Hb6.out cS | exact cell_below Hb5.out cS | exact cell_below (below_drew w4) cS) (fun _ => ?_); clear hK K; (try simp only [Act.put, List.setIfInBounds_toArray, List.set_cons_zero, List.set_cons_succ]))
            (refine wpAnyH_ready (rs := [8]) (by kernel_rfl) (by simp) ?_; refine AllReadyH.cons rfl (fun K hK => ?_) AllReadyH.nil; go_simp)
            (go_at_call 20; (with_reducible refine (HXA.out _ (by first | exact S5.out.x | exact S5.out.x.keep (below_drew _))).mono ?_); rintro e w6 ⟨v6, rfl, hown, hb⟩; have Hb6 := hid (Hb5.out.trans ((show Below w5.heap.size w5 w6 from by first | exact hb | exact first_below hb).mono Hb5.out.size)); have S6 := hid (S4.out.keep Hb6.out); have O6 := hid (O4.out.keep Hb6.out); obtain ⟨A6, cap6, rfl⟩ := slice_len hown.bs Hfl.out; have s2 := run_str Try.underlying22 Try.underlying5 Try.underlying9 hown.bs; have s1b := run_str Try.underlying22 Try.underlying5 Try.underlying9 (B5.out.below ((show Below w5.heap.size w5 w6 from by first | exact hb | exact first_below hb))); clear hown hb)
            (refine hK.out _ _ (by first | exact cell_below Hb6.out cS | exact cell_below Hb5.out cS | exact cell_below (below_drew w4) cS) (fun _ => ?_); clear hK K; (try simp only [Act.put, List.setIfInBounds_toArray, List.set_cons_zero, List.set_cons_succ]))
            (refine wpAnyH_ready (rs := [9]) (by kernel_rfl) (by simp) ?_; refine AllReadyH.cons rfl (fun K hK => ?_) AllReadyH.nil; go_simp)
            (refine hK.out _ _ (by first | exact cell_below Hb6.out cS | exact cell_below Hb5.out cS | exact cell_below (below_drew w4) cS) (fun _ => ?_); clear hK K; (try simp only [Act.put, List.setIfInBounds_toArray, List.set_cons_zero, List.set_cons_succ]))
            (refine wpAnyH_ready (rs := [10]) (by kernel_rfl) (by simp) ?_; refine AllReadyH.cons rfl (fun K hK => ?_) AllReadyH.nil; go_simp)
            (refine hK.out _ _ (by first | exact cell_below Hb6.out cS | exact cell_below Hb5.out cS | exact cell_below (below_drew w4) cS) (fun _ => ?_); clear hK K; (try simp only [Act.put, List.setIfInBounds_toArray, List.set_cons_zero, List.set_cons_succ]))
            refine wpAnyH_done (by kernel_rfl) ?_ _
            all_goals
              go_wp2_with fail
              go_meet
              case rel => exact ⟨m, l, F, FX, Nat.le_succ m, S6.out, O6.out⟩
          · (go_at_call 20; (with_reducible refine (HXA.out _ (by first | exact S5.out.x | exact S5.out.x.keep (below_drew _))).mono ?_); rintro e w6 ⟨v6, rfl, hown, hb⟩; have Hb6 := hid (Hb5.out.trans ((show Below w5.heap.size w5 w6 from by first | exact hb | exact first_below hb).mono Hb5.out.size)); have S6 := hid (S4.out.keep Hb6.out); have O6 := hid (O4.out.keep Hb6.out); obtain ⟨A6, cap6, rfl⟩ := slice_len hown.bs Hfl.out; have s2 := run_str Try.underlying22 Try.underlying5 Try.underlying9 hown.bs; have s1b := run_str Try.underlying22 Try.underlying5 Try.underlying9 (B5.out.below ((show Below w5.heap.size w5 w6 from by first | exact hb | exact first_below hb))); clear hown hb)
            (refine hK.out _ _ (by first | exact cell_below Hb6.out cS | exact cell_below Hb5.out cS | exact cell_below (below_drew w4) cS) (fun _ => ?_); clear hK K; (try simp only [Act.put, List.setIfInBounds_toArray, List.set_cons_zero, List.set_cons_succ]))
            (refine wpAnyH_ready (rs := [4, 9]) (by kernel_rfl) (by simp) ?_; refine AllReadyH.cons rfl (fun K hK => ?_) (AllReadyH.cons rfl (fun K hK => ?_) AllReadyH.nil) <;> go_simp)
            · (refine hK.out _ _ (by first | exact cell_below Hb6.out cS | exact cell_below Hb5.out cS | exact cell_below (below_drew w4) cS) (fun _ => ?_); clear hK K; (try simp only [Act.put, List.setIfInBounds_toArray, List.set_cons_zero, List.set_cons_succ]))
              (refine wpAnyH_ready (rs := [9]) (by kernel_rfl) (by simp) ?_; refine AllReadyH.cons rfl (fun K hK => ?_) AllReadyH.nil; go_simp)
              (refine hK.out _ _ (by first | exact cell_below Hb6.out cS | exact cell_below Hb5.out cS | exact cell_below (below_drew w4) cS) (fun _ => ?_); clear hK K; (try simp only [Act.put, List.setIfInBounds_toArray, List.set_cons_zero, List.set_cons_succ]))
              (refine wpAnyH_ready (rs := [10]) (by kernel_rfl) (by simp) ?_; refine AllReadyH.cons rfl (fun K hK => ?_) AllReadyH.nil; go_simp)
              (refine hK.out _ _ (by first | exact cell_below Hb6.out cS | exact cell_below Hb5.out cS | exact cell_below (below_drew w4) cS) (fun _ => ?_); clear hK K; (try simp only [Act.put, List.setIfInBounds_toArray, List.set_cons_zero, List.set_cons_succ]))
              refine wpAnyH_done (by kernel_rfl) ?_ _
              all_goals
                go_wp2_with fail
                go_meet
                case rel => exact ⟨m, l, F, FX, Nat.le_succ m, S6.out, O6.out⟩
            · (refine hK.out _ _ (by first | exact cell_below Hb6.out cS | exact cell_below Hb5.out cS | exact cell_below (below_drew w4) cS) (fun _ => ?_); clear hK K; (try simp only [Act.put, List.setIfInBounds_toArray, List.set_cons_zero, List.set_cons_succ]))
              (refine wpAnyH_ready (rs := [4]) (by kernel_rfl) (by simp) ?_; refine AllReadyH.cons rfl (fun K hK => ?_) AllReadyH.nil; go_simp)
              (refine hK.out _ _ (by first | exact cell_below Hb6.out cS | exact cell_below Hb5.out cS | exact cell_below (below_drew w4) cS) (fun _ => ?_); clear hK K; (try simp only [Act.put, List.setIfInBounds_toArray, List.set_cons_zero, List.set_cons_succ]))
              (refine wpAnyH_ready (rs := [10]) (by kernel_rfl) (by simp) ?_; refine AllReadyH.cons rfl (fun K hK => ?_) AllReadyH.nil; go_simp)
              (refine hK.out _ _ (by first | exact cell_below Hb6.out cS | exact cell_below Hb5.out cS | exact cell_below (below_drew w4) cS) (fun _ => ?_); clear hK K; (try simp only [Act.put, List.setIfInBounds_toArray, List.set_cons_zero, List.set_cons_succ]))
              refine wpAnyH_done (by kernel_rfl) ?_ _
              all_goals
                go_wp2_with fail
                go_meet
                case rel => exact ⟨m, l, F, FX, Nat.le_succ m, S6.out, O6.out⟩
        have hk3a : ¬ kind = 3 := hk3
        have hk3b : (kind == 3) = false := by simpa using hk3
        clear hk1 hk2 hk3
        go_wp2_with fail
        go_meet
        case rel => exact ⟨m, l, F, FX, Nat.le_succ m, S4.out, O4.out⟩
end Go.Proofs.Ytefpfjdfkecjkaa
