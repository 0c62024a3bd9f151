/- The document's driver: a piece is offered. -/
import Derived.Test.YtgiegiobigdplaaVnBd
import Derived.Test.YtgiegiobigdplaaVnU
namespace Go.Proofs.Ytgiegiobigdplaa
open Go Go.RowKit
attribute [local go_sem ↓] Go.wp_at_zero Go.wp_at_succ
set_option maxRecDepth 100000
set_option linter.unusedSimpArgs false
set_option linter.unusedVariables false

/-- what the second half of Add holds -/
structure RAddW (w0 w : World) (base gm L b n g put got : Nat) (bs : List Bool) (gt : Nat) (vF : Value) (l : List (Nat × Value)) (F : Nat → Prop) (Mx : List UInt8) (gc gL cL i gl : Nat) (xs : List Value) : Prop where
  mid : RMid w base gm L b n g put got bs gt vF l F
  mem : MemAt w gm Mx
  len : Mx.length = L
  ch : Blk w gc 125 [.int .i64 (i : Int), .slice (some ⟨gL, 0, none⟩) 1 cL]
  lst : w.ownsRow w0.heap.size 3 1 (.slice (some ⟨gL, 0, none⟩) 1 cL) 1 [.int .i64 (i : Int)]
  buf : Blk w gl 93 xs
  fr : Frame (fun k => F k ∨ k = gm) w0 w
  nm : ¬ F gm
  cF : ¬ F gc
  lF : ¬ F gL
  bF : ¬ F gl
section
variable {w0 w w' : World} {base gm L b n g put got : Nat} {bs : List Bool} {gt : Nat} {vF : Value} {l : List (Nat × Value)} {F : Nat → Prop} {Mx My : List UInt8} {gc gL cL i gl : Nat} {xs : List Value}
theorem RAddW.keep (h : RAddW w0 w base gm L b n g put got bs gt vF l F Mx gc gL cL i gl xs) (hb : Below w.heap.size w w') : RAddW w0 w' base gm L b n g put got bs gt vF l F Mx gc gL cL i gl xs :=
  ⟨h.mid.keep hb, h.mem.keep hb, h.len, h.ch.keep hb, own_below h.lst hb, h.buf.keep hb, h.fr.trans (Below.frameF hb _) (fun _ _ e => e), h.nm, h.cF, h.lF, h.bF⟩
theorem RAddW.set_ (h : RAddW w0 w base gm L b n g put got bs gt vF l F Mx gc gL cL i gl xs) (hf : Frame (fun k => k = gm) w w') (hm : MemAt w' gm My) (hl : My.length = L) : RAddW w0 w' base gm L b n g put got bs gt vF l F My gc gL cL i gl xs :=
  ⟨h.mid.frame hf (fun k hk e => h.nm (e ▸ hk)), hm, hl, hf.blk h.ch (blk_ne h.ch h.mem (by decide)), hf.own h.lst (own_blk_ne h.lst h.mem (by decide)), hf.blk h.buf (blk_ne h.buf h.mem (by decide)), h.fr.trans hf (fun _ _ e => .inr e), h.nm, h.cF, h.lF, h.bF⟩
theorem RAddW.mid_ (h : RAddW w0 w base gm L b n g put got bs gt vF l F Mx gc gL cL i gl xs) {z put' got' : Nat} {bs' : List Bool} {vF' : Value} {l' : List (Nat × Value)} (hf : Frame (fun k => k = z) w w') (hz : F z) (hm : RMid w' base gm L b n g put' got' bs' gt vF' l' F) : RAddW w0 w' base gm L b n g put' got' bs' gt vF' l' F Mx gc gL cL i gl xs :=
  ⟨hm, hf.blk h.mem (fun e => h.nm (e ▸ hz)), h.len, hf.blk h.ch (fun e => h.cF (e ▸ hz)), hf.own h.lst (fun k hk e => by
    simp [Value.ownBlock] at hk
    subst hk
    exact h.lF (e ▸ hz)), hf.blk h.buf (fun e => h.bF (e ▸ hz)), h.fr.trans hf (fun _ _ e => .inl (e ▸ hz)), h.nm, h.cF, h.lF, h.bF⟩
theorem RAddW.c (h : RAddW w0 w base gm L b n g put got bs gt vF l F Mx gc gL cL i gl xs) : w.cell? ⟨g, 0, none⟩ = some (.slice (some ⟨gm, 0, none⟩) L L) ∧ w.cell? ⟨g, 1, none⟩ = some (.int .i64 (b : Int)) ∧ w.cell? ⟨g, 2, none⟩ = some (.int .i64 (n : Int)) ∧ w.cell? ⟨g, 3, none⟩ = some (.slice (some ⟨gt, 0, none⟩) n n) ∧ w.cell? ⟨g, 4, none⟩ = some (.int .i64 (put : Int)) ∧ w.cell? ⟨g, 6, none⟩ = some vF ∧
    w.cell? ⟨gc, 0, none⟩ = some (.int .i64 (i : Int)) ∧ w.cell? ⟨gc, 1, none⟩ = some (.slice (some ⟨gL, 0, none⟩) 1 cL) ∧ w.cell? ⟨gL, 0, none⟩ = some (.int .i64 (i : Int)) :=
  ⟨h.mid.tab.cell 0, h.mid.tab.cell 1, h.mid.tab.cell 2, h.mid.tab.cell 3, h.mid.tab.cell 4, h.mid.tab.cell 6, h.ch.cell 0, h.ch.cell 1, World.ownsRow.cells h.lst rfl 0 _ rfl⟩
end
theorem own_own_ne {w : World} {base base' s s' k k' : Nat} {e t : TypeId} {v v' : Value} {xs ys : List Value} (h : w.ownsRow base e s v k xs) (h' : w.ownsRow base' t s' v' k' ys) (ht : e ≠ t) : ∀ j, v.ownBlock = some j → v'.ownBlock ≠ some j := by
  intro j hj hj'
  rcases h.2 with ⟨rfl, _⟩ | ⟨g0, cap, cur, rfl, _, h2, _⟩
  · simp [Value.ownBlock] at hj
  · rcases h'.2 with ⟨rfl, _⟩ | ⟨g1, cap', cur', rfl, _, h3, _⟩
    · simp [Value.ownBlock] at hj'
    · simp [Value.ownBlock] at hj hj'
      subst hj
      subst hj'
      rw [h2] at h3
      injection h3 with h3
      injection h3 with _ h4
      exact ht h4
/-- what the last part of Add holds -/
structure RAddP (w0 w : World) (base gm L b n g put got : Nat) (bs : List Bool) (gt : Nat) (vF : Value) (l : List (Nat × Value)) (F F' : Nat → Prop) (Mx : List UInt8) (gc : Nat) (c1 : Value) (i : Nat) : Prop where
  mid : RMid w base gm L b n g put got bs gt vF l F'
  mem : MemAt w gm Mx
  len : Mx.length = L
  ch : Blk w gc 125 [.int .i64 (i : Int), c1]
  fr : Frame (fun k => F k ∨ k = gm) w0 w
  gF : F g
  nm : ¬ F' gm
  cF : ¬ F' gc
  sub : ∀ k, F' k → F k ∨ w0.heap.size ≤ k
section
variable {w0 w w' : World} {base gm L b n g put got : Nat} {bs : List Bool} {gt : Nat} {vF c1 : Value} {l : List (Nat × Value)} {F F' : Nat → Prop} {Mx My : List UInt8} {gc gL cL i gl : Nat} {xs : List Value}
theorem RAddP.keep (h : RAddP w0 w base gm L b n g put got bs gt vF l F F' Mx gc c1 i) (hb : Below w.heap.size w w') : RAddP w0 w' base gm L b n g put got bs gt vF l F F' Mx gc c1 i :=
  ⟨h.mid.keep hb, h.mem.keep hb, h.len, h.ch.keep hb, h.fr.trans (Below.frameF hb _) (fun _ _ e => e), h.gF, h.nm, h.cF, h.sub⟩
theorem RAddP.set_ (h : RAddP w0 w base gm L b n g put got bs gt vF l F F' Mx gc c1 i) (hf : Frame (fun k => k = gm) w w') (hm : MemAt w' gm My) (hl : My.length = L) : RAddP w0 w' base gm L b n g put got bs gt vF l F F' My gc c1 i :=
  ⟨h.mid.frame hf (fun k hk e => h.nm (e ▸ hk)), hm, hl, hf.blk h.ch (blk_ne h.ch h.mem (by decide)), h.fr.trans hf (fun _ _ e => .inr e), h.gF, h.nm, h.cF, h.sub⟩
theorem RAddP.put_ (h : RAddP w0 w base gm L b n g put got bs gt vF l F F' Mx gc c1 i) (x : Nat) : RAddP w0 (w.setCell ⟨g, 4, none⟩ (.int .i64 (x : Int))) base gm L b n g x got bs gt vF l F F' Mx gc c1 i :=
  ⟨h.mid.cell_ x got 4 _ rfl, h.mem.frame (frame_mem (grown_set _ _ _ _)) (fun e => h.nm (e ▸ h.mid.fg)), h.len, h.ch.far (fun e => h.cF (e ▸ h.mid.fg)) _, h.fr.trans (frame_mem (grown_set _ _ _ _)) (fun _ _ e => .inl (e ▸ h.gF)), h.gF, h.nm, h.cF, h.sub⟩
theorem RAddP.c (h : RAddP w0 w base gm L b n g put got bs gt vF l F F' Mx gc c1 i) : w.cell? ⟨g, 0, none⟩ = some (.slice (some ⟨gm, 0, none⟩) L L) ∧ w.cell? ⟨g, 1, none⟩ = some (.int .i64 (b : Int)) ∧ w.cell? ⟨g, 2, none⟩ = some (.int .i64 (n : Int)) ∧ w.cell? ⟨g, 4, none⟩ = some (.int .i64 (put : Int)) ∧ w.cell? ⟨gc, 0, none⟩ = some (.int .i64 (i : Int)) :=
  ⟨h.mid.tab.cell 0, h.mid.tab.cell 1, h.mid.tab.cell 2, h.mid.tab.cell 4, h.ch.cell 0⟩
/-- the chain is put behind the others -/
theorem RAddW.fly_ {w8 w10 : World} {A A' : Option Addr} {c c' : Nat} (h : RAddW w0 w base gm L b n g put got bs gt (.slice A l.length c) l F Mx gc gL cL i gl xs) (hbase : base ≤ w0.heap.size) (hgc : w0.heap.size ≤ gc) (hb8 : Below w.heap.size w w8) (hg : w8.grownBy w10 (Value.slice A l.length c).ownBlock)
    (ho : w10.ownsRow base 125 2 (.slice A' (l.length + 1) c') (l.length + 1) (chRow l ++ chRow [(i, (.slice (some ⟨gL, 0, none⟩) 1 cL : Value))])) (hat : (Value.slice A' (l.length + 1) c').ownBlock = (Value.slice A l.length c).ownBlock ∨ (Value.slice A' (l.length + 1) c').ownBlock = some w8.heap.size) :
    RAddP w0 (w10.setCell ⟨g, 6, none⟩ (.slice A' (l.length + 1) c')) base gm L b n g put got bs gt (.slice A' (l.length + 1) c') (l ++ [(i, .slice (some ⟨gL, 0, none⟩) 1 cL)]) F (fun k => F k ∨ k = gL ∨ (Value.slice A' (l.length + 1) c').ownBlock = some k) Mx gc (.slice (some ⟨gL, 0, none⟩) 1 cL) i := by
  have h8 := h.keep hb8
  have hv := h8.mid.fly.1
  have hfr : Frame (fun k => (Value.slice A l.length c).ownBlock = some k) w8 w10 := frame_grown hg (fun _ e => e)
  have hvF : ∀ k, (Value.slice A l.length c).ownBlock = some k → F k := h8.mid.fly.2.1
  have hw8 := h8.fr.size
  have hgL : w0.heap.size ≤ gL ∧ gL < w8.heap.size := World.ownsRow.lt h8.lst gL rfl
  have hA' : ∀ k, (Value.slice A' (l.length + 1) c').ownBlock = some k → (F k ∧ k < w8.heap.size) ∨ k = w8.heap.size := fun k hk => by
    rcases hat with e | e
    · rw [e] at hk
      exact .inl ⟨hvF k hk, (World.ownsRow.lt hv k hk).2⟩
    · rw [e] at hk
      injection hk with hk
      exact .inr hk.symm
  have hlt10 : ∀ k, (Value.slice A' (l.length + 1) c').ownBlock = some k → base ≤ k ∧ k < w10.heap.size := fun k hk => World.ownsRow.lt ho k hk
  have hz := hfr.size
  have t10 : Blk w10 g 111 (rdrvCells gm L b n gt put got (.slice A l.length c)) := hfr.blk h8.mid.tab (fun e => own_blk_ne hv h8.mid.tab (by decide) g e rfl)
  have b10 : Blk w10 gt 4 (bs.map Value.bool) := hfr.blk h8.mid.bsk (fun e => own_blk_ne hv h8.mid.bsk (by decide) gt e rfl)
  have L10 : w10.ownsRow w0.heap.size 3 1 (.slice (some ⟨gL, 0, none⟩) 1 cL) 1 [.int .i64 (i : Int)] := hfr.own h8.lst (fun j hj e => own_own_ne h8.lst hv (by decide) j hj e)
  have fly10 : FlyAt w10 base (.slice A' (l.length + 1) c') (l ++ [(i, .slice (some ⟨gL, 0, none⟩) 1 cL)]) (fun k => F k ∨ k = gL ∨ (Value.slice A' (l.length + 1) c').ownBlock = some k) := by
    refine ⟨?_, fun k hk => .inr (.inr hk), fun p hp => ?_⟩
    · rw [List.length_append, chRow_app]
      exact ho
    · rcases List.mem_append.1 hp with hp | hp
      · have h1 := h8.mid.fly.2.2 p hp
        exact ⟨hfr.own h1.1 (fun j hj e => own_own_ne h1.1 hv (by decide) j hj e), fun k hk => .inl (h1.2 k hk)⟩
      · simp at hp
        subst hp
        exact ⟨own_mono L10 hbase, fun k hk => by simp [Value.ownBlock] at hk; exact .inr (.inl hk.symm)⟩
  have f10 := frame_mem (grown_set w10 g 6 (.slice A' (l.length + 1) c'))
  have hne : ∀ {z : Nat} {t : TypeId} {ys : List Value}, Blk w10 z t ys → t ≠ 111 → z ≠ g := fun hb ht => blk_ne hb t10 ht
  have hmem10 : MemAt w10 gm Mx := hfr.blk h8.mem (fun e => own_blk_ne hv h8.mem (by decide) gm e rfl)
  have hch10 : Blk w10 gc 125 [.int .i64 (i : Int), .slice (some ⟨gL, 0, none⟩) 1 cL] := hfr.blk h8.ch (fun e => h8.cF (hvF gc e))
  refine ⟨⟨t10.set_ 6 _, b10.far (hne b10 (by decide)) _, fly10.set_ g 6 _ (own_blk_ne fly10.1 t10 (by decide)) (fun p hp => own_blk_ne (fly10.2.2 p hp).1 t10 (by decide)), .inl h8.mid.fg, .inl h8.mid.ft, fun k hk => ?_⟩, hmem10.frame f10 (hne hmem10 (by decide)), h8.len, hch10.far (hne hch10 (by decide)) _, (h8.fr.trans hfr (fun k _ e => .inl (hvF k e))).trans f10 (fun k _ e => .inl (e ▸ h8.mid.fg)), h8.mid.fg, fun e => ?_, fun e => ?_, fun k hk => ?_⟩
  · have hs := f10.size
    rcases hk with e | e | e
    · exact ⟨(h8.mid.flt k e).1, by have := (h8.mid.flt k e).2; omega⟩
    · subst e
      exact ⟨by omega, by omega⟩
    · have := hlt10 k e
      exact ⟨this.1, by omega⟩
  · rcases e with e | e | e
    · exact h8.nm e
    · exact own_blk_ne h8.lst h8.mem (by decide) gL rfl e.symm
    · have := Blk.lt h8.mem
      rcases hA' gm e with ⟨e2, _⟩ | e2
      · exact h8.nm e2
      · omega
  · rcases e with e | e | e
    · exact h8.cF e
    · exact own_blk_ne h8.lst h8.ch (by decide) gL rfl e.symm
    · have := h8.ch.lt
      rcases hA' gc e with ⟨e2, _⟩ | e2
      · exact h8.cF e2
      · omega
  · rcases hk with e | e | e
    · exact .inl e
    · subst e
      exact .inr hgL.1
    · rcases hA' k e with ⟨e2, _⟩ | e2
      · exact .inl e2
      · exact .inr (by omega)
end
theorem fly_add {l : List (Nat × Value)} {busy : List Bool} {i : Nat} {x : Value} (nod : (l.map Prod.fst).Nodup) (mem : ∀ k, k ∈ l.map Prod.fst ↔ busy[k]? = some true) (hi : busy[i]? = some false) :
    ((l ++ [(i, x)]).map Prod.fst).Nodup ∧ ∀ k, k ∈ (l ++ [(i, x)]).map Prod.fst ↔ (busy.set i true)[k]? = some true := by
  have hni : i ∉ l.map Prod.fst := fun e => by rw [(mem i).1 e] at hi; simp at hi
  have hlt := (List.getElem?_eq_some_iff.1 hi).1
  have hp : (l.map Prod.fst ++ [i]).Perm (i :: l.map Prod.fst) := List.perm_append_comm
  rw [List.map_append]
  show (l.map Prod.fst ++ [i]).Nodup ∧ ∀ k, k ∈ l.map Prod.fst ++ [i] ↔ _
  refine ⟨hp.nodup_iff.2 (List.nodup_cons.2 ⟨hni, nod⟩), fun k => ?_⟩
  rw [hp.mem_iff, List.mem_cons, List.getElem?_set]
  by_cases e : i = k
  · subst e
    rw [if_pos rfl, if_pos hlt]
    simp
  · rw [if_neg e, ← mem k]
    constructor
    · intro h
      rcases h with h | h
      · exact absurd h.symm e
      · exact h
    · exact .inr
theorem raddM_eq (b n i put p p8 p12 p14 pm ri pa p2 pt1 addr len fl : Nat) (M M4 M5 : List UInt8) (h1 : b + 16 * i = p ∧ p + 8 = p8 ∧ p + 12 = p12 ∧ p + 14 = p14) (h2 : put % n = pm ∧ b + 16 * n = ri ∧ ri + 4 + 2 * pm = pa ∧ ri + 2 = p2) (h3 : (put + 1) % 65536 = pt1)
    (e4 : putAt (putAt (putAt (putAt M p 8 addr) p8 4 len) p12 2 fl) p14 2 0 = M4) (e5 : putAt M4 pa 2 i = M5) : putAt M5 p2 2 pt1 = vAddM M b n put i addr len fl := by
  obtain ⟨rfl, rfl, rfl, rfl⟩ := h1
  obtain ⟨rfl, rfl, rfl, rfl⟩ := h2
  subst h3 e4 e5
  unfold vAddM
  simp only [Nat.add_assoc]
def RAddPost (base gm L b n g m : Nat) (q : VQ) (i addr len fl : Nat) (M : List UInt8) (F : Nat → Prop) (w : World) (e : Ending) (w' : World) : Prop :=
  e = .returned (.tuple #[.int .i64 (i : Int), .int .i64 0]) ∧ ∃ F', RDrv w' base gm L b n g (q.add i) (m + 1) F' ∧ MemAt w' gm (vAddM M b n q.put i addr len fl) ∧ Frame (fun k => F k ∨ k = gm) w w' ∧ ∀ k, F' k → F k ∨ w.heap.size ≤ k
set_option maxHeartbeats 8000000 in
theorem radd_at (base gm L b n g m i addr len gl : Nat) (write : Bool) (q : VQ) (M : List UInt8) (F : Nat → Prop) (w : World) (h : RDrv w base gm L b n g q m F) (hm : MemAt w gm M) (hM : M.length = L) (hL : L ≤ 1000000) (hfm : ¬ F gm) (hok : okN (n : Int) = true) (hb : b + vSize n ≤ L)
    (hi : q.busy[i]? = some false) (hlt : ∀ j, j < i → q.busy[j]? = some true) (hl : Blk w gl 93 [.int .i64 (addr : Int), .int .i64 (len : Int), .bool write]) (hgl : ¬ F gl) (ha : addr < 9223372036854775808) (hlen : len < 4294967296) (hm1 : m < 1000000000) (fl : Nat) (hfl : fl = if write then 2 else 0) :
    Calls Try.prog 42 #[.pointer (some ⟨g, 0, none⟩), .slice (some ⟨gl, 0, none⟩) 1 1] w (RAddPost base gm L b n g m q i addr len fl M F w) := by
  obtain ⟨gt, vF, l, h⟩ := h
  have hn := okN_le hok
  have hin : i < n := by have := (List.getElem?_eq_some_iff.1 hi).1; rw [h.len] at this; exact this
  have HD := hid h
  have HM := hid hm
  have HL := hid (And.intro hM hL)
  have HB := hid hl
  have HgF := hid (And.intro hfm hgl)
  have Hi := hid hi
  have Hlt := hid hlt
  have Hm1 := hid hm1
  have Hfl := hid hfl
  have Hb := hid hb
  have l0 : w.cell? ⟨gl, 0, none⟩ = some (.int .i64 (addr : Int)) := hl.cell 0
  have l1 : w.cell? ⟨gl, 1, none⟩ = some (.int .i64 (len : Int)) := hl.cell 1
  have l2 : w.cell? ⟨gl, 2, none⟩ = some (.bool write) := hl.cell 2
  have d1 : decide ((addr : Int) < 0) = false := decide_eq_false (by omega)
  have d2 : decide ((len : Int) < 0) = false := decide_eq_false (by omega)
  have d3 : decide ((4294967296 : Int) ≤ (len : Int)) = false := decide_eq_false (by omega)
  have Hd := hid (show (decide ((addr : Int) < 0) || decide ((len : Int) < 0) || decide ((4294967296 : Int) ≤ (len : Int))) = false by rw [d1, d2, d3]; rfl)
  clear d1 d2 d3
  clear h hm hM hfm hok hb hi hlt hl hgl hm1 hfl
  go_enter Try.func42, Try.ntmps42
  go_wp2_with fail
  go_loopg [6] 2 (fun gk s6 wx => ∃ z : Nat, z + gk = 2 ∧ s6 = .int .i64 (z : Int) ∧ (z = 0 ∨ z = 1) ∧ wx = w)
  case atStart => exact ⟨0, rfl, rfl, .inl rfl, rfl⟩
  case round =>
    obtain ⟨z, hgk, rfl, rfl | rfl, hw⟩ := hrel
    · have hw := hw.symm
      subst hw
      go_upto_if 44 with fail
      simp only [Hd.out]
      go_wp2_with fail
      go_roundg 1
      case measure => omega
      case rel => exact ⟨1, rfl, rfl, .inr rfl, rfl⟩
    have hw := hw.symm
    subst hw
    have HFr := hid (rfree_at g gt n q.busy w HD.out.len (by omega) HD.out.mid.bsk (HD.out.mid.tab.cell 2) (HD.out.mid.tab.cell 3))
    obtain ⟨fr, hfr⟩ : ∃ x, vFree q.busy = x := ⟨_, rfl⟩
    have hfr1 : 1 ≤ fr := by rw [← hfr]; exact vFree_pos Hi.out
    rw [hfr] at HFr
    clear hfr
    go_upto_region 11 with (go_at_call 56; refine HFr.out.mono ?_; rintro e w' ⟨rfl, hw⟩; have hw := hw.symm; subst hw)
    have C1 := hid (show Blk (w.alloc (.cells #[.int .i64 0, .slice none 0 0] 125)) w.heap.size 125 [.int .i64 0, .slice none 0 0] from Blk.new _ _ _)
    have B1 := hid (below_alloc w (.cells #[.int .i64 0, .slice none 0 0] 125))
    obtain ⟨gc, hgc⟩ : ∃ x, w.heap.size = x := ⟨_, rfl⟩
    have Hgc := hid hgc
    simp only [hgc] at C1 ⊢
    generalize w.alloc (.cells #[.int .i64 0, .slice none 0 0] 125) = w1 at *
    have HD1 := hid (HD.out.mid.keep B1.out)
    clear hgc HFr hfr1
    go_wp2_with fail
    go_loopg [8] (i + 3) (fun gk s8 wx => (∃ k : Nat, k ≤ i ∧ k + gk = i + 3 ∧ s8 = .int .i64 (k : Int) ∧ wx = w1) ∨ (∃ gL cL, gk = 1 ∧ s8 = .int .i64 ((i + 1 : Nat) : Int) ∧ Blk wx gc 125 [.int .i64 0, .slice (some ⟨gL, 0, none⟩) 1 cL] ∧ wx.ownsRow w1.heap.size 3 1 (.slice (some ⟨gL, 0, none⟩) 1 cL) 1 [.int .i64 (i : Int)] ∧ Below w.heap.size w wx))
    case atStart => exact .inl ⟨0, by omega, by omega, rfl, rfl⟩
    case round =>
      rcases hrel with ⟨k, hk, hgk, rfl, hw⟩ | ⟨gL, cL, rfl, rfl, hch, hown, hb2⟩
      · have hw := hw.symm
        subst hw
        have c2 : w1.cell? ⟨g, 2, none⟩ = some (.int .i64 (n : Int)) := HD1.out.tab.cell 2
        have c3 : w1.cell? ⟨g, 3, none⟩ = some (.slice (some ⟨gt, 0, none⟩) n n) := HD1.out.tab.cell 3
        have k1 : w1.cell? ⟨gc, 1, none⟩ = some (.slice none 0 0) := C1.out.cell 1
        have hkn : (k : Int) < (n : Int) := by omega
        by_cases hki : k < i
        · have hcell : w1.cell? ⟨gt, k, none⟩ = some (.bool true) := by rw [HD1.out.bsk.cell k, List.getElem?_map, Hlt.out k hki]; rfl
          go_wp2_with fail
          go_roundg (i + 3 - (k + 1))
          case measure => omega
          case rel => exact .inl ⟨k + 1, by omega, by omega, by go_num, rfl⟩
        · obtain rfl : k = i := by omega
          have hcell : w1.cell? ⟨gt, k, none⟩ = some (.bool false) := by rw [HD1.out.bsk.cell k, List.getElem?_map, Hi.out]; rfl
          have z1 := C1.out.frozen 1
          go_wp2_with ((with_reducible show wpList _ _ _ (Oper.mk (some 78) _ _ _ _ _ :: _) _ _); refine wpList_app _ rfl _ _ 47 rfl w1.heap.size 3 (.int .i64 0) 1 8 intok (.slice none 0 0) 0 [] rfl (World.ownsRow_nil _ _ _ _) (.slice (some ⟨w1.heap.size, 0, none⟩) 1 1) 1 [.int .i64 (k : Int)] rfl (rowS_lit 1 #[.int .i64 (k : Int)] 1 _ rfl rfl (by simp [maxLen])) (by simp [Value.oneCell']) (by omega) (by simp [maxLen]) (by simp) ?_; intro v9 w9 hown9 hg9 hat9; obtain ⟨gL, cL, rfl, _, hl1, hl2⟩ := own_one (show w9.ownsRow w1.heap.size 3 1 v9 1 [.int .i64 (k : Int)] from hown9); have O9 := hid (show w9.ownsRow w1.heap.size 3 1 (.slice (some ⟨gL, 0, none⟩) 1 cL) 1 [.int .i64 (k : Int)] from hown9); have B9 := hid (show Below w1.heap.size w1 w9 from (below_alloc w1 _).trans (grown_below (World.ownsRow_nil _ w1.heap.size 3 1) (by simp) hg9)); have C9 := hid (C1.out.keep B9.out); have k9 : w9.cell? ⟨gc, 1, none⟩ = some (.slice none 0 0) := C9.out.cell 1; have z9 := C9.out.frozen 1; clear hown9 hg9 hat9)
          go_roundg 1
          case measure => omega
          case rel => exact .inr ⟨gL, cL, rfl, by go_num, C9.out.set_ 1 (.slice (some ⟨gL, 0, none⟩) 1 cL), (frame_mem (grown_set w9 gc 1 (.slice (some ⟨gL, 0, none⟩) 1 cL))).own O9.out (fun j hj e => by simp [Value.ownBlock] at hj; have := C1.out.lt; omega), (B1.out.trans (B9.out.mono B1.out.size)).setCell (p := ⟨gc, 1, none⟩) (Nat.le_of_eq Hgc.out) _⟩
      · have C2 := hid hch
        have O2 := hid hown
        have B2 := hid hb2
        have HgL := hid (World.ownsRow.lt hown gL rfl)
        have D2 := hid (HD.out.mid.keep hb2)
        have c2 : wr.cell? ⟨g, 2, none⟩ = some (.int .i64 (n : Int)) := D2.out.tab.cell 2
        have k1 : wr.cell? ⟨gc, 1, none⟩ = some (.slice (some ⟨gL, 0, none⟩) 1 cL) := hch.cell 1
        have k0 : wr.cell? ⟨gc, 0, none⟩ = some (.int .i64 0) := hch.cell 0
        have z0 := hch.frozen 0
        have kL : wr.cell? ⟨gL, 0, none⟩ = some (.int .i64 (i : Int)) := World.ownsRow.cells hown rfl 0 _ rfl
        have B1s := B1.out.size
        have hgcl := C1.out.lt
        have W2 := hid (show RAddW w (wr.setCell ⟨gc, 0, none⟩ (.int .i64 (i : Int))) base gm L b n g q.put q.got q.busy gt vF l F M gc gL cL i gl [.int .i64 (addr : Int), .int .i64 (len : Int), .bool write] from by
          have hfz := frame_mem (grown_set wr gc 0 (.int .i64 (i : Int)))
          have hF : ∀ k, F k → k ≠ gc := fun k hk e => by have := (HD.out.mid.flt k hk).2; have := Hgc.out; omega
          have hgmc : gm < gc := by have := Blk.lt HM.out; have := Hgc.out; omega
          have hglc : gl < gc := by have := HB.out.lt; have := Hgc.out; omega
          exact ⟨D2.out.frame hfz hF, (HM.out.keep hb2).frame hfz (fun e => by omega), HL.out.1, hch.set_ 0 _, hfz.own (own_mono hown (by have := B1.out.size; omega)) (fun j hj e => by simp [Value.ownBlock] at hj; have := HgL.out; omega), hfz.blk (HB.out.keep hb2) (fun e => by omega),
            (Below.frameF hb2 _).trans hfz (fun k hk e => by have := Hgc.out; omega), HgF.out.1, fun e => hF gc e rfl, fun e => by have := (HD.out.mid.flt gL e).2; have := HgL.out; omega, HgF.out.2⟩)
        clear hch hown hb2 C1 HD1
        obtain ⟨p, hp⟩ : ∃ p : Nat, b + 16 * i = p := ⟨_, rfl⟩
        have hpI : (b : Int) + 16 * (i : Int) = (p : Int) := by omega
        obtain ⟨p8, hp8⟩ : ∃ x : Nat, p + 8 = x := ⟨_, rfl⟩
        have hp8I : (p : Int) + 8 = (p8 : Int) := by omega
        obtain ⟨p12, hp12⟩ : ∃ x : Nat, p + 12 = x := ⟨_, rfl⟩
        have hp12I : (p : Int) + 12 = (p12 : Int) := by omega
        obtain ⟨p14, hp14⟩ : ∃ x : Nat, p + 14 = x := ⟨_, rfl⟩
        have hp14I : (p : Int) + 14 = (p14 : Int) := by omega
        have Hp := hid (And.intro hp (And.intro hp8 (And.intro hp12 hp14)))
        have Hbnd := hid (show p14 + 2 ≤ L by have := Hb.out; unfold vSize at this; omega)
        have hplt : p14 ≤ 1000000 := by have := Hbnd.out; omega
        have hw0 : IntKind.i64.wrap (p : Int) = (p : Int) := IntWalk.i64_in _ (by omega)
        have hw8 : IntKind.i64.wrap (p8 : Int) = (p8 : Int) := IntWalk.i64_in _ (by omega)
        have hw12 : IntKind.i64.wrap (p12 : Int) = (p12 : Int) := IntWalk.i64_in _ (by omega)
        have hw14 : IntKind.i64.wrap (p14 : Int) = (p14 : Int) := IntWalk.i64_in _ (by omega)
        have hbL : b ≤ 1000000 := by omega
        clear hp hp8 hp12 hp14
        obtain ⟨M4, hM4⟩ : ∃ x, putAt (putAt (putAt (putAt M p 8 addr) p8 4 len) p12 2 fl) p14 2 0 = x := ⟨_, rfl⟩
        have HM4 := hid hM4
        clear hM4
        have hxs : ((i : Int) + 1 < (n : Int)) ∨ ¬ ((i : Int) + 1 < (n : Int)) := by omega
        rcases hxs with hxI | hxI
        all_goals
          go_upto_region 17 with fail
          clear hxI k1 k0 z0 kL c2
          generalize wr.setCell ⟨gc, 0, none⟩ (.int .i64 (i : Int)) = w3 at *
          go_wp2_with fail
          go_loopg [9, 10, 11, 12] 2 (fun gk s9 _ _ _ wx => ∃ z : Nat, z + gk = 2 ∧ s9 = .int .i64 (z : Int) ∧ (z = 0 ∧ wx = w3 ∨ z = 1 ∧ RAddW w wx base gm L b n g q.put q.got (q.busy.set i true) gt vF l F M4 gc gL cL i gl [.int .i64 (addr : Int), .int .i64 (len : Int), .bool write]))
          case atStart => exact ⟨0, rfl, rfl, .inl ⟨rfl, rfl⟩⟩
          case round =>
            obtain ⟨z, hgk, rfl, ⟨rfl, hw⟩ | ⟨rfl, hA⟩⟩ := hrel
            · have hw := hw.symm
              subst hw
              obtain rfl : gk = 2 := by omega
              obtain ⟨c0, c1, c2, c3, c4, c6, k0, k1, kL⟩ := W2.out.c
              have hcell : w3.cell? ⟨gt, i, none⟩ = some (.bool false) := by rw [W2.out.mid.bsk.cell i, List.getElem?_map, Hi.out]; rfl
              have hz := W2.out.mid.bsk.frozen i
              have hinI : (i : Int) < (n : Int) := by omega
              have W4 := hid (show RAddW w (w3.setCell ⟨gt, i, none⟩ (.bool true)) base gm L b n g q.put q.got (q.busy.set i true) gt vF l F M gc gL cL i gl [.int .i64 (addr : Int), .int .i64 (len : Int), .bool write] from W2.out.mid_ (frame_mem (grown_set w3 gt i (.bool true))) W2.out.mid.ft (W2.out.mid.mark i true))
              go_upto_region 20 with fail
              go_region_held3 (fun wy => wy.cell? ⟨g, 3, none⟩ = some (.slice (some ⟨gt, 0, none⟩) n n) ∧ wy.cell? ⟨gc, 1, none⟩ = some (.slice (some ⟨gL, 0, none⟩) 1 cL) ∧ wy.cell? ⟨gL, 0, none⟩ = some (.int .i64 (i : Int))) (first | exact ⟨c3, k1, kL⟩ | exact ⟨W4.out.c.2.2.2.1, W4.out.c.2.2.2.2.2.2.2.1, W4.out.c.2.2.2.2.2.2.2.2⟩) (fail)
              have W5 := hid (W4.out.keep (below_drew _))
              clear W4 c0 c1 c2 c3 c4 c6 k0 k1 kL hcell hz
              generalize (w3.setCell ⟨gt, i, none⟩ (.bool true)).drew = w5 at *
              obtain ⟨c0, c1, c2, c3, c4, c6, k0, k1, kL⟩ := W5.out.c
              go_step
              go_upto_region 21 with fail
              go_quiet (fail)
              revert nq
              intro q6
              have W6 := hid (W5.out.keep (below_drewN (Below.refl _ _) q6))
              clear W5 c0 c1 c2 c3 c4 c6 k0 k1 kL
              generalize w5.drewN q6 = w6 at *
              have e2 : w6.cell? ⟨gl, 2, none⟩ = some (.bool write) := W6.out.buf.cell 2
              go_step
              go_upto_if 127 with fail
              go_cut [11] from 127 to 129 (fun s wx => s = .int .i64 (fl : Int) ∧ wx = w6)
              case first =>
                cases write with
                | true =>
                  have hf : (fl : Int) = 2 := by rw [Hfl.out]; rfl
                  have Hf := hid hf
                  clear hf
                  go_wp2_with fail
                  go_meet
                  case rel => exact ⟨by rw [Hf.out], rfl⟩
                | false =>
                  have hf : (fl : Int) = 0 := by rw [Hfl.out]; rfl
                  have Hf := hid hf
                  clear hf
                  go_wp2_with fail
                  go_meet
                  case rel => exact ⟨by rw [Hf.out], rfl⟩
              case rest =>
              obtain ⟨rfl, hw⟩ := hcut
              have hw := hw.symm
              subst hw
              clear e2
              have e0 : w6.cell? ⟨gl, 0, none⟩ = some (.int .i64 (addr : Int)) := W6.out.buf.cell 0
              obtain ⟨c0, c1, c2, c3, c4, c6, k0, k1, kL⟩ := W6.out.c
              have hfl16 : fl < 65536 := by have := Hfl.out; split at this <;> omega
              go_step
              go_upto_region 28 with fail
              go_region_held3 (fun wy => wy.cell? ⟨gl, 0, none⟩ = some (.int .i64 (addr : Int)) ∧ wy.cell? ⟨g, 0, none⟩ = some (.slice (some ⟨gm, 0, none⟩) L L)) (first | exact ⟨e0, c0⟩ | exact ⟨cell_below (below_drew _) e0, cell_below (below_drew _) c0⟩ | exact ⟨W7.out.buf.cell 0, W7.out.c.1⟩) (first
                | (go_at_call 57; (with_reducible refine (rset8_at gm L M p addr _ W6.out.len HL.out.2 (W6.out.keep (below_drew _)).mem (by have := Hbnd.out; have := Hp.out; omega) ha).mono ?_); rintro e w7 ⟨⟨u, rfl⟩, m7, f7⟩; have W7 := hid ((W6.out.keep (below_drew _)).set_ f7 m7 (by rw [putAt_len (by rw [W6.out.len]; have := Hbnd.out; have := Hp.out; omega), W6.out.len])); clear m7 f7)
                | fail)
              obtain ⟨M1, hM1⟩ : ∃ x, putAt M p 8 addr = x := ⟨_, rfl⟩
              rw [hM1] at W7
              have HM1e := hid hM1
              clear hM1 W6 e0 c0 c1 c2 c3 c4 c6 k0 k1 kL
              have e1 : w7.cell? ⟨gl, 1, none⟩ = some (.int .i64 (len : Int)) := W7.out.buf.cell 1
              obtain ⟨c0, c1, c2, c3, c4, c6, k0, k1, kL⟩ := W7.out.c
              go_step
              go_upto_region 29 with fail
              go_region_held3 (fun wy => wy.cell? ⟨gl, 1, none⟩ = some (.int .i64 (len : Int)) ∧ wy.cell? ⟨g, 0, none⟩ = some (.slice (some ⟨gm, 0, none⟩) L L)) (first | exact ⟨e1, c0⟩ | exact ⟨cell_below (below_drew _) e1, cell_below (below_drew _) c0⟩ | exact ⟨W8.out.buf.cell 1, W8.out.c.1⟩) (first
                | (go_at_call 57; (with_reducible refine (rset4_at gm L M1 p8 len _ W7.out.len HL.out.2 (W7.out.keep (below_drew _)).mem (by have := Hbnd.out; have := Hp.out; omega) (by omega)).mono ?_); rintro e w8 ⟨⟨u, rfl⟩, m8, f8⟩; have W8 := hid ((W7.out.keep (below_drew _)).set_ f8 m8 (by rw [putAt_len (by rw [W7.out.len]; have := Hbnd.out; have := Hp.out; omega), W7.out.len])); clear m8 f8)
                | fail)
              obtain ⟨M2, hM2⟩ : ∃ x, putAt M1 p8 4 len = x := ⟨_, rfl⟩
              rw [hM2] at W8
              have HM2e := hid hM2
              clear hM2 W7 e1 c0 c1 c2 c3 c4 c6 k0 k1 kL
              obtain ⟨c0, c1, c2, c3, c4, c6, k0, k1, kL⟩ := W8.out.c
              go_step
              go_upto_region 31 with (go_at_call 57; (with_reducible refine (rset2_at gm L M2 p12 fl _ W8.out.len HL.out.2 W8.out.mem (by have := Hbnd.out; have := Hp.out; omega) (by omega)).mono ?_); rintro e w9 ⟨⟨u, rfl⟩, m9, f9⟩; have W9 := hid (W8.out.set_ f9 m9 (by rw [putAt_len (by rw [W8.out.len]; have := Hbnd.out; have := Hp.out; omega), W8.out.len])); clear m9 f9)
              obtain ⟨M3, hM3⟩ : ∃ x, putAt M2 p12 2 fl = x := ⟨_, rfl⟩
              rw [hM3] at W9
              have HM3e := hid hM3
              clear hM3 W8 c0 c1 c2 c3 c4 c6 k0 k1 kL
              obtain ⟨c0, c1, c2, c3, c4, c6, k0, k1, kL⟩ := W9.out.c
              go_wp2_with (go_at_call 57; refine (show Calls Try.prog 57 #[.slice (some ⟨gm, 0, none⟩) L L, .int .i64 (p14 : Int), .int .i64 2, .int .i64 0] _ _ from rset2_at gm L M3 p14 0 _ W9.out.len HL.out.2 W9.out.mem Hbnd.out (by decide)).mono ?_; rintro e w10 ⟨⟨u, rfl⟩, m10, f10⟩; have W10 := hid (W9.out.set_ f10 m10 (by rw [putAt_len (by rw [W9.out.len]; exact Hbnd.out), W9.out.len])); clear m10 f10)
              rw [show putAt M3 p14 2 0 = M4 by rw [← HM4.out, HM1e.out, HM2e.out, HM3e.out]] at W10
              go_roundg 1
              case measure => omega
              case rel => exact ⟨1, rfl, rfl, .inr ⟨rfl, W10.out⟩⟩
            · have W9 := hid hA
              clear hA W2
              generalize wr = w9 at *
              obtain ⟨c0, c1, c2, c3, c4, c6, k0, k1, kL⟩ := W9.out.c
              obtain ⟨_, A, c, hvF, hlc, hcm, _⟩ := RowN.of_own W9.out.mid.fly.1
              subst hvF
              obtain ⟨ln, hln⟩ : ∃ x, l.length = x := ⟨_, rfl⟩
              have Hlm := hid (show ln ≤ 1000000000 by have := HD.out.lm; have := Hm1.out; omega)
              rw [hln] at c6
              have hown := W9.out.mid.fly.1
              rw [hln] at hown
              have Hown := hid hown
              have Hln := hid hln
              have Hone := hid (show ∀ u ∈ chRow [(i, (.slice (some ⟨gL, 0, none⟩) 1 cL : Value))], u.oneCell' = true from chRow_one (fun p hp => by simp at hp; subst hp; rfl))
              have z6 := W9.out.mid.tab.frozen 6
              clear hlc hcm hln hown
              have c6a : (w9.alloc (.cells #[.int .i64 (i : Int), .slice (some ⟨gL, 0, none⟩) 1 cL] 125)).cell? ⟨g, 6, none⟩ = some (.slice A ln c) := cell_below (below_alloc _ _) c6
              go_upto_region 32 with fail
              go_cut [] from 169 to 178 (fun wx => ∃ A' c' w8 w10, Below w9.heap.size w9 w8 ∧ w8.grownBy w10 (Value.slice A ln c).ownBlock ∧ w10.ownsRow base 125 2 (.slice A' (ln + 1) c') (ln + 1) (chRow l ++ chRow [(i, (.slice (some ⟨gL, 0, none⟩) 1 cL : Value))]) ∧ ((Value.slice A' (ln + 1) c').ownBlock = (Value.slice A ln c).ownBlock ∨ (Value.slice A' (ln + 1) c').ownBlock = some w8.heap.size) ∧ wx = w10.setCell ⟨g, 6, none⟩ (.slice A' (ln + 1) c'))
              case first =>
                go_region_law (first
                  | (refine step_appH _ (by rfl) _ _ 109 (by rfl) base 125 (.agg #[.int .i64 0, .slice none 0 0]) 2 32 chok (.slice A ln c) ln (chRow l) (by rfl) (own_below Hown.out (below_alloc' (below_drew w9) _)) _ 1 [.int .i64 (i : Int), .slice (some ⟨gL, 0, none⟩) 1 cL] (by rfl) (rowS_lit 2 #[.int .i64 (i : Int), .slice (some ⟨gL, 0, none⟩) 1 cL] 1 _ rfl rfl (by simp [maxLen])) Hone.out (by have := Hlm.out; omega) (by have := Hlm.out; simp only [maxLen]; omega) (by have := HD.out.mid.flt g HD.out.mid.fg; have := W9.out.fr.size; simp; omega) ?_; intro v10 w10 hown10 hg10 hat10; obtain ⟨_, A', c', rfl, _, _, _⟩ := RowN.of_own hown10; have O10 := hid hown10; have G10 := hid hg10; have X10 := hid hat10; have T10 := hid ((W9.out.mid.tab.keep (below_alloc' (below_drew w9) (.cells #[.int .i64 (i : Int), .slice (some ⟨gL, 0, none⟩) 1 cL] 125))).grown hg10 (fun e => own_blk_ne Hown.out W9.out.mid.tab (by decide) g e.symm rfl)); have r6 : w10.cell? ⟨g, 6, none⟩ = some (.slice A ln c) := (T10.out.cell 6).trans (congrArg (fun z : Nat => some (Value.slice A z c)) Hln.out); have rz := T10.out.frozen 6; clear hown10 hg10 hat10)
                  | fail)
                all_goals
                  go_wp2_with fail
                  go_meet
                  case rel => exact ⟨_, _, _, w10, below_alloc' (below_drew w9) _, G10.out, O10.out, X10.out, rfl⟩
              case rest =>
              obtain ⟨A', c', w8, w10, hb8, hg10, ho10, hat10, rfl⟩ := hcut
              have P10 := hid (RAddW.fly_ (l := l) (A := A) (c := c) (A' := A') (c' := c') W9.out (by have := HD.out.mid.flt g HD.out.mid.fg; omega) (Nat.le_of_eq Hgc.out) hb8 (by rw [Hln.out]; exact hg10) (by rw [Hln.out]; exact ho10) (by rw [Hln.out]; exact hat10))
              rw [Hln.out] at P10
              clear W9 c0 c1 c2 c3 c4 c6 c6a k0 k1 kL z6 Hown Hone hb8 hg10 ho10 hat10
              generalize w10.setCell ⟨g, 6, none⟩ (.slice A' (ln + 1) c') = w11 at *
              obtain ⟨pt, hpt⟩ : ∃ x, q.put = x := ⟨_, rfl⟩
              have hptl : pt < 65536 := by rw [← hpt]; exact HD.out.put
              have Hpt := hid hpt
              rw [hpt] at P10
              obtain ⟨pm, hpm⟩ : ∃ x : Nat, pt % n = x := ⟨_, rfl⟩
              have hpmn : pm < n := by rw [← hpm]; exact Nat.mod_lt _ (by omega)
              have hpmI : (pt : Int) % (n : Int) = (pm : Int) := by rw [← hpm]; exact (Int.natCast_emod _ _).symm
              have hpmT : Int.tmod (pt : Int) (n : Int) = (pm : Int) := by rw [Int.tmod_eq_emod_of_nonneg (by omega)]; exact hpmI
              obtain ⟨ri, hri⟩ : ∃ x : Nat, b + 16 * n = x := ⟨_, rfl⟩
              have hriI : (b : Int) + 16 * (n : Int) = (ri : Int) := by omega
              obtain ⟨pa, hpa⟩ : ∃ x : Nat, ri + 4 + 2 * pm = x := ⟨_, rfl⟩
              have hpaI : (ri : Int) + 4 + 2 * (pm : Int) = (pa : Int) := by omega
              obtain ⟨p2, hp2⟩ : ∃ x : Nat, ri + 2 = x := ⟨_, rfl⟩
              have hp2I : (ri : Int) + 2 = (p2 : Int) := by omega
              have Hb5 := hid (show pa + 2 ≤ L ∧ p2 + 2 ≤ L by have := Hb.out; unfold vSize at this; omega)
              have hriL : ri ≤ 1000000 := by have := Hb.out; unfold vSize at this; omega
              have hwpa : IntKind.i64.wrap (pa : Int) = (pa : Int) := IntWalk.i64_in _ (by omega)
              have hwp2 : IntKind.i64.wrap (p2 : Int) = (p2 : Int) := IntWalk.i64_in _ (by omega)
              have hwr4 : IntKind.i64.wrap ((ri : Int) + 4) = (ri : Int) + 4 := IntWalk.i64_in _ (by omega)
              have hw2p : IntKind.i64.wrap (2 * (pm : Int)) = 2 * (pm : Int) := IntWalk.i64_in _ (by omega)
              have hn0N : ¬ n = 0 := by omega
              obtain ⟨pt1, hpt1⟩ : ∃ x, (pt + 1) % 65536 = x := ⟨_, rfl⟩
              have hpt1l : pt1 < 65536 := by omega
              have hpt1I : ((pt : Int) + 1) % 65536 = (pt1 : Int) := by omega
              have hpt1T : Int.tmod ((pt : Int) + 1) 65536 = (pt1 : Int) := by rw [Int.tmod_eq_emod_of_nonneg (by omega)]; exact hpt1I
              have Hpt1 := hid hpt1
              have Hpa := hid (And.intro hpm (And.intro hri (And.intro hpa hp2)))
              clear hpm hri hpa hp2 hpt hpt1
              obtain ⟨c0, c1, c2, c4, k0⟩ := P10.out.c
              go_step
              go_upto_region 33 with fail
              go_quiet (fail)
              revert nq
              intro q11
              have P11 := hid (P10.out.keep (below_drewN (Below.refl _ _) q11))
              clear P10 c0 c1 c2 c4 k0
              generalize w11.drewN q11 = w12 at *
              obtain ⟨c0, c1, c2, c4, k0⟩ := P11.out.c
              go_upto_region 34 with fail
              go_region_held3 (fun wy => wy.cell? ⟨g, 0, none⟩ = some (.slice (some ⟨gm, 0, none⟩) L L) ∧ wy.cell? ⟨g, 2, none⟩ = some (.int .i64 (n : Int)) ∧ wy.cell? ⟨g, 4, none⟩ = some (.int .i64 (pt : Int)) ∧ wy.cell? ⟨gc, 0, none⟩ = some (.int .i64 (i : Int))) (first | exact ⟨c0, c2, c4, k0⟩ | exact ⟨cell_below (below_drew _) c0, cell_below (below_drew _) c2, cell_below (below_drew _) c4, cell_below (below_drew _) k0⟩ | exact ⟨P13.out.c.1, P13.out.c.2.2.1, P13.out.c.2.2.2.1, P13.out.c.2.2.2.2⟩) (first
                | (go_at_call 57; (with_reducible refine (rset2_at gm L M4 pa i _ P11.out.len HL.out.2 (P11.out.keep (below_drew _)).mem Hb5.out.1 (by omega)).mono ?_); rintro e w13 ⟨⟨u, rfl⟩, m13, f13⟩; have P13 := hid ((P11.out.keep (below_drew _)).set_ f13 m13 (by rw [putAt_len (by rw [P11.out.len]; exact Hb5.out.1), P11.out.len])); clear m13 f13)
                | fail)
              obtain ⟨M5, hM5⟩ : ∃ x, putAt M4 pa 2 i = x := ⟨_, rfl⟩
              rw [hM5] at P13
              have HM5 := hid hM5
              clear hM5 P11 c0 c1 c2 c4 k0
              obtain ⟨c0, c1, c2, c4, k0⟩ := P13.out.c
              have z4 := P13.out.mid.tab.frozen 4
              go_step
              go_upto_region 36 with fail
              have P14 := hid (P13.out.put_ pt1)
              clear P13 c0 c1 c2 c4 k0 z4
              generalize w13.setCell ⟨g, 4, none⟩ (.int .i64 (pt1 : Int)) = w14 at *
              obtain ⟨c0, c1, c2, c4, k0⟩ := P14.out.c
              go_region_held3 (fun wy => wy.cell? ⟨g, 0, none⟩ = some (.slice (some ⟨gm, 0, none⟩) L L) ∧ wy.cell? ⟨g, 4, none⟩ = some (.int .i64 (pt1 : Int)) ∧ wy.cell? ⟨gc, 0, none⟩ = some (.int .i64 (i : Int))) (first | exact ⟨c0, c4, k0⟩ | exact ⟨cell_below (below_drew _) c0, cell_below (below_drew _) c4, cell_below (below_drew _) k0⟩ | exact ⟨P15.out.c.1, P15.out.c.2.2.2.1, P15.out.c.2.2.2.2⟩) (first
                | (go_at_call 57; (with_reducible refine (rset2_at gm L M5 p2 pt1 _ P14.out.len HL.out.2 (P14.out.keep (below_drew _)).mem Hb5.out.2 (by omega)).mono ?_); rintro e w15 ⟨⟨u, rfl⟩, m15, f15⟩; have P15 := hid ((P14.out.keep (below_drew _)).set_ f15 m15 (by rw [putAt_len (by rw [P14.out.len]; exact Hb5.out.2), P14.out.len])); clear m15 f15)
                | fail)
              obtain ⟨_, _, _, _, k0⟩ := P15.out.c
              go_wp2_with fail
              go_ret2
              have hM := raddM_eq b n i q.put p p8 p12 p14 pm ri pa p2 pt1 addr len fl M M4 M5 Hp.out (by rw [Hpt.out]; exact Hpa.out) (by rw [Hpt.out]; exact Hpt1.out) HM4.out HM5.out
              have h15 := P15.out
              rw [hM] at h15
              have hfa := fly_add (x := (.slice (some ⟨gL, 0, none⟩) 1 cL)) HD.out.nod HD.out.mem Hi.out
              exact ⟨rfl, _, ⟨gt, _, _, by have := h15.mid; unfold VQ.add; rw [Hpt.out, Hpt1.out]; exact this, by show (q.busy.set i true).length = n; rw [List.length_set]; exact HD.out.len, by show (q.put + 1) % 65536 < 65536; omega, HD.out.got, hfa.1, hfa.2, by rw [List.length_append]; have := HD.out.lm; exact Nat.succ_le_succ this⟩, h15.mem, h15.fr, h15.sub⟩
end Go.Proofs.Ytgiegiobigdplaa
