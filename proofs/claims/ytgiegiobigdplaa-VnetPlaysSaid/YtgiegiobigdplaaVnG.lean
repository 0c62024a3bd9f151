/- The program's driver offers one piece. -/
import Derived.Test.YtgiegiobigdplaaVnF
namespace Go.Proofs.Ytgiegiobigdplaa
open Go Go.RowKit
attribute [local go_sem ↓] Go.wp_at_zero Go.wp_at_succ
set_option maxRecDepth 100000
set_option linter.unusedSimpArgs false

theorem bufinfo : (Try.prog.info? 93).map (·.size) = some 3 := by kernel_rfl
theorem intinfo : (Try.prog.info? 3).map (fun i => (i.zero, i.size, i.bytes)) = some (some (.int .i64 0), 1, 8) := by kernel_rfl
theorem intok : ElemOk Try.prog 47 3 (.int .i64 0) 1 8 := by
  obtain ⟨i, hi, hz, hsz, hby⟩ := info_parts intinfo
  exact ⟨Try.underlying47, ⟨i, hi, hz, hsz, hby⟩, rfl, by decide, by decide⟩
theorem own_ne_mapI {P : Program} {k e : TypeId} {w : World} {b m n base size : Nat} {f : Nat → Option Value} {v : Value} {xs : List Value} (h : RowAtS w base e size v n xs) (hm : MapI P k w b m f) : v.ownBlock ≠ some b := by
  rcases h.2 with ⟨rfl, _⟩ | ⟨g2, off, cap, cur, rfl, _, hh, _⟩
  · simp [Value.ownBlock]
  · intro e2
    simp [Value.ownBlock] at e2
    exact hm.ne hh e2
theorem cell_frame {F : Nat → Prop} {w w' : World} (hf : Frame F w w') {b o : Nat} {x : Value} (h : w.cell? ⟨b, o, none⟩ = some x) (hn : ¬ F b) : w'.cell? ⟨b, o, none⟩ = some x := by
  have hlt := World.block_lt_of_cell? w _ h
  have h6 := hf.block b hlt hn
  rw [← h]
  unfold World.cell?
  simp only [h6]
/-- while one is offered: bs: what is taken by now -/
structure DrvMid (w : World) (base gm b n g : Nat) (q : VQ) (bs : List Bool) (m gb gch : Nat) (f : Nat → Option Value) (F : Nat → Prop) : Prop where
  tab : Blk w g 135 (drvCells gm b n q gb gch)
  bs : Blk w gb 4 (bs.map Value.bool)
  map : MapI Try.prog 3 w gch m f
  ch : ChainsIs w base f q.busy F
  fg : F g
  fb : F gb
  fc : F gch
  flt : ∀ k, F k → base ≤ k ∧ k < w.heap.size
section
variable {w w' : World} {base gm b n g : Nat} {q : VQ} {bs : List Bool} {m gb gch : Nat} {f : Nat → Option Value} {F : Nat → Prop}
theorem DrvMid.frame {G : Nat → Prop} (h : DrvMid w base gm b n g q bs m gb gch f F) (hf : Frame G w w') (hd : ∀ k, F k → ¬ G k) : DrvMid w' base gm b n g q bs m gb gch f F :=
  ⟨hf.blk h.tab (hd _ h.fg), hf.blk h.bs (hd _ h.fb), h.map.block (hf.block gch (h.flt _ h.fc).2 (hd _ h.fc)), h.ch.same (fun k hk => hf.block k (h.flt k hk).2 (hd k hk)), h.fg, h.fb, h.fc, fun k hk => ⟨(h.flt k hk).1, Nat.lt_of_lt_of_le (h.flt k hk).2 hf.size⟩⟩
theorem DrvMid.keep (h : DrvMid w base gm b n g q bs m gb gch f F) (hb : Below w.heap.size w w') : DrvMid w' base gm b n g q bs m gb gch f F := h.frame (G := fun _ => False) (Below.frameF hb _) (fun _ _ => id)
theorem DrvAt.mid (h : DrvAt w base gm b n g q m gb gch f F) : DrvMid w base gm b n g q q.busy m gb gch f F := ⟨h.tab, h.bs, h.map, h.ch, h.fg, h.fb, h.fc, h.flt⟩
/-- a descriptor is taken, or let go -/
theorem DrvMid.mark (h : DrvMid w base gm b n g q bs m gb gch f F) (i : Nat) (x : Bool) : DrvMid (w.setCell ⟨gb, i, none⟩ (.bool x)) base gm b n g q (bs.set i x) m gb gch f F := by
  have hg := grown_set w gb i (.bool x)
  have hne : g ≠ gb := blk_ne h.tab h.bs (by decide)
  refine ⟨h.tab.grown hg (fun e => by injection e with e; exact hne e), ?_, h.map.grownCells h.bs hg, fun y hy => ⟨fun hb => ?_, (h.ch y hy).2⟩, h.fg, h.fb, h.fc, fun k hk => ⟨(h.flt k hk).1, Nat.lt_of_lt_of_le (h.flt k hk).2 hg.size⟩⟩
  · have := h.bs.set_ i (.bool x)
    rw [← List.map_set] at this
    exact this
  · obtain ⟨v, h1, h2, h3⟩ := (h.ch y hy).1 hb
    refine ⟨v, h1, World.ownsRow.kept h2 hg ?_, h3⟩
    rcases hv : v.ownBlock with _ | k
    · exact .inl rfl
    · refine .inr fun e => ?_
      injection e with e
      subst e
      exact (RowAtS.of_own h2).ne h.bs (by decide) hv
/-- one of its own cells is written -/
theorem DrvMid.cell_ (h : DrvMid w base gm b n g q bs m gb gch f F) (q' : VQ) (hb : q'.busy = q.busy) (i : Nat) (u : Value) (hc : (drvCells gm b n q gb gch).set i u = drvCells gm b n q' gb gch) : DrvMid (w.setCell ⟨g, i, none⟩ u) base gm b n g q' bs m gb gch f F := by
  have hg := grown_set w g i u
  have hne : g ≠ gb := blk_ne h.tab h.bs (by decide)
  refine ⟨?_, h.bs.grown hg (fun e => by injection e with e; exact hne e.symm), h.map.grownCells h.tab hg, fun y hy => ?_, h.fg, h.fb, h.fc, fun k hk => ⟨(h.flt k hk).1, Nat.lt_of_lt_of_le (h.flt k hk).2 hg.size⟩⟩
  · have := h.tab.set_ i u
    rw [hc] at this
    exact this
  · rw [hb]
    refine ⟨fun hb2 => ?_, (h.ch y hy).2⟩
    obtain ⟨v, h1, h2, h3⟩ := (h.ch y hy).1 hb2
    refine ⟨v, h1, World.ownsRow.kept h2 hg ?_, h3⟩
    rcases hv : v.ownBlock with _ | k
    · exact .inl rfl
    · refine .inr fun e => ?_
      injection e with e
      subst e
      exact (RowAtS.of_own h2).ne h.tab (by decide) hv
end
theorem u64w (x : Nat) (h : x < 18446744073709551616) : IntKind.u64.wrap (x : Int) = (x : Int) := by rw [IntKind.wrap_u64]; omega
theorem set8_at (g gm b S : Nat) (M : List UInt8) (p v : Nat) (w : World) (hm : MemAt w gm M) (hb : b + S ≤ M.length) (hp : p + 8 ≤ S) (hv : v < 18446744073709551616) (c0 : w.cell? ⟨g, 0, none⟩ = some (.slice (some ⟨gm, b, none⟩) S S)) :
    Calls Try.prog 62 #[.pointer (some ⟨g, 0, none⟩), .int .i64 (p : Int), .int .i64 8, .int .u64 (v : Int)] w (SetPost gm (putAt M (b + p) 8 v) w) := set_at g gm b S M p 8 v w hm hb hp rfl hv c0
theorem set4_at (g gm b S : Nat) (M : List UInt8) (p v : Nat) (w : World) (hm : MemAt w gm M) (hb : b + S ≤ M.length) (hp : p + 4 ≤ S) (hv : v < 4294967296) (c0 : w.cell? ⟨g, 0, none⟩ = some (.slice (some ⟨gm, b, none⟩) S S)) :
    Calls Try.prog 62 #[.pointer (some ⟨g, 0, none⟩), .int .i64 (p : Int), .int .i64 4, .int .u64 (v : Int)] w (SetPost gm (putAt M (b + p) 4 v) w) := set_at g gm b S M p 4 v w hm hb hp rfl hv c0
theorem set2_at (g gm b S : Nat) (M : List UInt8) (p v : Nat) (w : World) (hm : MemAt w gm M) (hb : b + S ≤ M.length) (hp : p + 2 ≤ S) (hv : v < 65536) (c0 : w.cell? ⟨g, 0, none⟩ = some (.slice (some ⟨gm, b, none⟩) S S)) :
    Calls Try.prog 62 #[.pointer (some ⟨g, 0, none⟩), .int .i64 (p : Int), .int .i64 2, .int .u64 (v : Int)] w (SetPost gm (putAt M (b + p) 2 v) w) := set_at g gm b S M p 2 v w hm hb hp rfl hv c0
/-- all that the walk of Add holds -/
structure AddW (w0 w : World) (base gm b n g : Nat) (q : VQ) (bs : List Bool) (m gb gch : Nat) (f : Nat → Option Value) (F : Nat → Prop) (Mx : List UInt8) (gx : Nat) (xs : List Value) (gc c i lo : Nat) : Prop where
  mem : MemAt w gm Mx
  mid : DrvMid w base gm b n g q bs m gb gch f F
  x : Blk w gx 93 xs
  ch : w.ownsRow lo 3 1 (.slice (some ⟨gc, 0, none⟩) 1 c) 1 [.int .i64 (i : Int)]
  fr : Frame (fun k => F k ∨ k = gm) w0 w
  nm : ¬ F gm
  xm : gx ≠ gm
  xf : ¬ F gx
  cm : gc ≠ gm
  cf : ¬ F gc
section
variable {w0 w w' : World} {base gm b n g : Nat} {q : VQ} {bs : List Bool} {m gb gch : Nat} {f : Nat → Option Value} {F : Nat → Prop} {Mx My : List UInt8} {gx : Nat} {xs : List Value} {gc c i lo : Nat}
theorem AddW.go {G : Nat → Prop} (h : AddW w0 w base gm b n g q bs m gb gch f F Mx gx xs gc c i lo) (hf : Frame G w w') (hG : ∀ k, k < w.heap.size → G k → F k ∨ k = gm) (hm : MemAt w' gm My) (hd : DrvMid w' base gm b n g q bs m gb gch f F) : AddW w0 w' base gm b n g q bs m gb gch f F My gx xs gc c i lo :=
  ⟨hm, hd, hf.blk h.x (fun e => by rcases hG gx h.x.lt e with e | e; exact h.xf e; exact h.xm e), own_same h.ch (fun k hk => hf.block k ((RowAtS.of_own h.ch).lt hk).2 (fun e => by
    simp [Value.ownBlock] at hk
    subst hk
    rcases hG _ ((RowAtS.of_own h.ch).lt rfl).2 e with e | e
    · exact h.cf e
    · exact h.cm e)), h.fr.trans hf (fun k hk e => hG k (Nat.lt_of_lt_of_le hk h.fr.size) e), h.nm, h.xm, h.xf, h.cm, h.cf⟩
theorem AddW.set_ (h : AddW w0 w base gm b n g q bs m gb gch f F Mx gx xs gc c i lo) (hf : Frame (fun k => k = gm) w w') (hm : MemAt w' gm My) : AddW w0 w' base gm b n g q bs m gb gch f F My gx xs gc c i lo :=
  h.go hf (fun _ _ e => .inr e) hm (h.mid.frame hf (fun _ hk e => h.nm (e ▸ hk)))
theorem AddW.keep (h : AddW w0 w base gm b n g q bs m gb gch f F Mx gx xs gc c i lo) (hb : Below w.heap.size w w') : AddW w0 w' base gm b n g q bs m gb gch f F Mx gx xs gc c i lo :=
  h.go (G := fun _ => False) (Below.frameF hb _) (fun _ _ e => e.elim) (h.mem.keep hb) (h.mid.keep hb)
theorem AddW.mark (h : AddW w0 w base gm b n g q bs m gb gch f F Mx gx xs gc c i lo) (j : Nat) (y : Bool) : AddW w0 (w.setCell ⟨gb, j, none⟩ (.bool y)) base gm b n g q (bs.set j y) m gb gch f F Mx gx xs gc c i lo := by
  have hf := frame_mem (grown_set w gb j (.bool y))
  refine ⟨h.mem.frame hf (fun e => h.nm (e ▸ h.mid.fb)), h.mid.mark j y, hf.blk h.x (fun e => h.xf (e ▸ h.mid.fb)), own_same h.ch (fun k hk => hf.block k ((RowAtS.of_own h.ch).lt hk).2 (fun e => ?_)), h.fr.trans hf (fun k _ e => .inl (by subst e; exact h.mid.fb)), h.nm, h.xm, h.xf, h.cm, h.cf⟩
  simp [Value.ownBlock] at hk
  subst hk
  exact h.cf (e ▸ h.mid.fb)
theorem AddW.c0 (h : AddW w0 w base gm b n g q bs m gb gch f F Mx gx xs gc c i lo) : w.cell? ⟨g, 0, none⟩ = some (.slice (some ⟨gm, b, none⟩) (vSize n) (vSize n)) := h.mid.tab.cell 0
theorem AddW.c1 (h : AddW w0 w base gm b n g q bs m gb gch f F Mx gx xs gc c i lo) : w.cell? ⟨g, 1, none⟩ = some (.int .i64 (n : Int)) := h.mid.tab.cell 1
theorem AddW.c2 (h : AddW w0 w base gm b n g q bs m gb gch f F Mx gx xs gc c i lo) : w.cell? ⟨g, 2, none⟩ = some (.int .i64 (q.put : Int)) := h.mid.tab.cell 2
theorem AddW.c4 (h : AddW w0 w base gm b n g q bs m gb gch f F Mx gx xs gc c i lo) : w.cell? ⟨g, 4, none⟩ = some (.slice (some ⟨gb, 0, none⟩) n n) := h.mid.tab.cell 4
theorem AddW.c5 (h : AddW w0 w base gm b n g q bs m gb gch f F Mx gx xs gc c i lo) : w.cell? ⟨g, 5, none⟩ = some (.map (some gch)) := h.mid.tab.cell 5
theorem AddW.kc (h : AddW w0 w base gm b n g q bs m gb gch f F Mx gx xs gc c i lo) : w.cell? ⟨gc, 0, none⟩ = some (.int .i64 (i : Int)) := World.ownsRow.cells h.ch rfl 0 _ rfl
end
theorem DrvMid.at_ {w : World} {base gm b n g : Nat} {q : VQ} {m gb gch : Nat} {f : Nat → Option Value} {F : Nat → Prop} (h : DrvMid w base gm b n g q q.busy m gb gch f F) (hl : q.busy.length = n) (h1 : q.put < 65536) (h2 : q.got < 65536) : DrvAt w base gm b n g q m gb gch f F := ⟨h.tab, h.bs, hl, h.map, h.ch, h.fg, h.fb, h.fc, h.flt, h1, h2⟩
/-- the chain is noted -/
theorem AddW.noted {w0 w w' : World} {base gm b n g : Nat} {q : VQ} {m gb gch : Nat} {f : Nat → Option Value} {F : Nat → Prop} {Mx : List UInt8} {gx : Nat} {xs : List Value} {gc c i lo : Nat} (h : AddW w0 w base gm b n g q (q.busy.set i true) m gb gch f F Mx gx xs gc c i lo) (hi : q.busy[i]? = some false) (hl : q.busy.length = n) (hq1 : q.put < 65536) (hq2 : q.got < 65536) (hlo : base ≤ lo)
    (hg : w.grownBy w' (some gch)) (hm : MapI Try.prog 3 w' gch (m + 1) (updI f i (some (.slice (some ⟨gc, 0, none⟩) 1 c)))) :
    DrvAt w' base gm b n g { q with busy := q.busy.set i true } (m + 1) gb gch (updI f i (some (.slice (some ⟨gc, 0, none⟩) 1 c))) (fun k => F k ∨ k = gc) ∧ MemAt w' gm Mx ∧ ¬ (F gm ∨ gm = gc) ∧ Frame (fun k => F k ∨ k = gm) w0 w' ∧ w'.cell? ⟨gc, 0, none⟩ = some (.int .i64 (i : Int)) := by
  have hf := frame_mem hg
  have hgm : gm ≠ gch := fun e => h.nm (e ▸ h.mid.fc)
  have hne := h.mid.map.ne h.mid.tab
  have hnb := h.mid.map.ne h.mid.bs
  have hch : w'.ownsRow lo 3 1 (.slice (some ⟨gc, 0, none⟩) 1 c) 1 [.int .i64 (i : Int)] := own_same h.ch (fun k hk => hf.block k ((RowAtS.of_own h.ch).lt hk).2 (fun e => by
    simp [Value.ownBlock] at hk
    subst hk
    exact h.cf (e ▸ h.mid.fc)))
  have hlt := (RowAtS.of_own h.ch).lt (g := gc) rfl
  refine ⟨⟨hf.blk h.mid.tab hne, hf.blk h.mid.bs hnb, by rw [List.length_set]; exact hl, hm, fun y hy => ?_, .inl h.mid.fg, .inl h.mid.fb, .inl h.mid.fc, fun k hk => ?_, hq1, hq2⟩, h.mem.frame hf hgm, fun e => e.elim h.nm (fun e => h.cm e.symm), h.fr.trans hf (fun k _ e => .inl (by subst e; exact h.mid.fc)), World.ownsRow.cells hch rfl 0 _ rfl⟩
  · show (((q.busy.set i true)[y]? = some true → _) ∧ ((q.busy.set i true)[y]? ≠ some true → _))
    unfold updI
    by_cases e : y = i
    · subst e
      have hlt2 := (List.getElem?_eq_some_iff.1 hi).1
      rw [List.getElem?_set, if_pos rfl, if_pos hlt2, if_pos rfl]
      exact ⟨fun _ => ⟨_, rfl, own_mono hch hlo, fun k hk => by simp [Value.ownBlock] at hk; exact .inr hk.symm⟩, fun hc => absurd rfl hc⟩
    · rw [List.getElem?_set, if_neg (fun e2 => e e2.symm), if_neg e]
      refine ⟨fun hb => ?_, (h.mid.ch y hy).2⟩
      obtain ⟨v, h1, h2, h3⟩ := (h.mid.ch y hy).1 hb
      refine ⟨v, h1, own_same h2 (fun k hk => hf.block k ((RowAtS.of_own h2).lt hk).2 (fun e2 => ?_)), fun k hk => .inl (h3 k hk)⟩
      subst e2
      exact own_ne_mapI (RowAtS.of_own h2) h.mid.map hk
  · rcases hk with hk | rfl
    · exact ⟨(h.mid.flt k hk).1, Nat.lt_of_lt_of_le (h.mid.flt k hk).2 hf.size⟩
    · exact ⟨Nat.le_trans hlo hlt.1, Nat.lt_of_lt_of_le hlt.2 hf.size⟩
theorem DrvAt.put_ {w : World} {base gm b n g : Nat} {q : VQ} {m gb gch : Nat} {f : Nat → Option Value} {F : Nat → Prop} (h : DrvAt w base gm b n g q m gb gch f F) (x : Nat) (hx : x < 65536) : DrvAt (w.setCell ⟨g, 2, none⟩ (.int .i64 (x : Int))) base gm b n g { q with put := x } m gb gch f F :=
  ((h.mid).cell_ { q with put := x } rfl 2 _ rfl).at_ h.len hx h.got
theorem DrvAt.got_ {w : World} {base gm b n g : Nat} {q : VQ} {m gb gch : Nat} {f : Nat → Option Value} {F : Nat → Prop} (h : DrvAt w base gm b n g q m gb gch f F) (x : Nat) (hx : x < 65536) : DrvAt (w.setCell ⟨g, 3, none⟩ (.int .i64 (x : Int))) base gm b n g { q with got := x } m gb gch f F :=
  ((h.mid).cell_ { q with got := x } rfl 3 _ rfl).at_ h.len h.put hx
def AddPost (base gm b n g m : Nat) (q : VQ) (i addr len fl : Nat) (M : List UInt8) (F : Nat → Prop) (w : World) (e : Ending) (w' : World) : Prop :=
  e = .returned (.tuple #[.int .i64 (i : Int), .int .i64 0]) ∧ ∃ F', DrvInv w' base gm b n g (q.add i) (m + 1) F' ∧ MemAt w' gm (vAddM M b n q.put i addr len fl) ∧ Frame (fun k => F k ∨ k = gm) w w' ∧ ∀ k, F' k → F k ∨ w.heap.size ≤ k
theorem vAddM_eq (n b i put p p8 p12 p14 pm pa p2 pt1 addr len fl : Nat) (M M4 M5 : List UInt8) (h1 : 16 * i = p ∧ p + 8 = p8 ∧ p + 12 = p12 ∧ p + 14 = p14) (h2 : put % n = pm ∧ 16 * n + 4 + 2 * pm = pa ∧ 16 * n + 2 = p2) (h3 : (put + 1) % 65536 = pt1)
    (e4 : putAt (putAt (putAt (putAt M (b + p) 8 addr) (b + p8) 4 len) (b + p12) 2 fl) (b + p14) 2 0 = M4) (e5 : putAt M4 (b + pa) 2 i = M5) : putAt M5 (b + p2) 2 pt1 = vAddM M b n put i addr len fl := by
  obtain ⟨rfl, rfl, rfl, rfl⟩ := h1
  obtain ⟨rfl, rfl, rfl⟩ := h2
  subst h3 e4 e5
  rfl
set_option maxHeartbeats 4000000 in
theorem vadd_at (base gm b n g m i addr len gl : Nat) (write : Bool) (q : VQ) (M : List UInt8) (F : Nat → Prop) (w : World) (h : DrvInv w base gm b n g q m F) (hm : MemAt w gm M) (hfm : ¬ F gm) (hok : okN (n : Int) = true) (hb : b + vSize n ≤ M.length)
    (hi : q.busy[i]? = some false) (hlt : ∀ j, j < i → q.busy[j]? = some true) (hl : Blk w gl 93 [.int .i64 (addr : Int), .int .i64 (len : Int), .bool write]) (ha : addr < 9223372036854775808) (hlen : len < 4294967296) (hm1 : m < 1000000000) (fl : Nat) (hfl : fl = if write then 2 else 0) :
    Calls Try.prog 51 #[.pointer (some ⟨g, 0, none⟩), .slice (some ⟨gl, 0, none⟩) 1 1] w (AddPost base gm b n g m q i addr len fl M F w) := by
  obtain ⟨gb, gch, f, h⟩ := h
  have hn := okN_le hok
  have hin : i < n := by have := (List.getElem?_eq_some_iff.1 hi).1; rw [h.len] at this; exact this
  have Hq0 := hid (And.intro h.len (And.intro h.put h.got))
  have hbl : base ≤ w.heap.size := by have := h.flt g h.fg; omega
  have Hfg := hid h.fg
  have Hggm := hid (show g ≠ gm from fun e => hfm (e ▸ h.fg))
  have HD := hid h
  have HM := hid hm
  have HL := hid hl
  have Hi := hid hi
  have Hlt := hid hlt
  have Hfm := hid hfm
  have Hb := hid hb
  have Hok := hid hok
  have Hm1 := hid hm1
  have Hfl := hid hfl
  have l0 : w.cell? ⟨gl, 0, none⟩ = some (.int .i64 (addr : Int)) := hl.cell 0
  have l1 : w.cell? ⟨gl, 1, none⟩ = some (.int .i64 (len : Int)) := hl.cell 1
  have l2 : w.cell? ⟨gl, 2, none⟩ = some (.bool write) := hl.cell 2
  have a1 : ¬ (addr : Int) < 0 := by omega
  have a2 : ¬ (len : Int) < 0 := by omega
  have a3 : ¬ (len : Int) > 4294967295 := by omega
  clear h hm hl hi hlt hfm hb hok hm1 hfl
  go_enter Try.func51, Try.ntmps51
  go_wp2_with fail
  go_loopg [7, 20] 2 (fun gk _ s20 wx => ∃ z : Nat, z + gk = 2 ∧ s20 = .int .i64 (z : Int) ∧ (z = 0 ∧ wx = w ∨ z = 1 ∧ Below w.heap.size w wx))
  case atStart => exact ⟨0, rfl, rfl, .inl ⟨rfl, rfl⟩⟩
  case round =>
    obtain ⟨z, hgk, rfl, ⟨rfl, hw⟩ | ⟨rfl, hbw⟩⟩ := hrel
    · have hw := hw.symm
      subst hw
      go_wp2_with ((with_reducible show wpList _ _ _ (Oper.mk none _ _ _ _ _ :: _) _ _); refine wpList_storeBlk rfl _ _ _ rfl _ _ rfl rfl _ _ (Blk.new _ _ _) bufinfo rfl rfl ?_; intro w4 hblk hg hsz; have e0 := hblk.cell 0; have e1 := hblk.cell 1; have Hb4 := hid (below_new_store hg); clear hblk hg hsz; (try simp only [Act.put]))
      go_roundg 1
      case measure => omega
      case rel => exact ⟨1, rfl, rfl, .inr ⟨rfl, Hb4.out⟩⟩
    have Hbw := hid hbw
    have HD1 := hid (HD.out.keep hbw)
    have HM1 := hid (HM.out.keep hbw)
    have HL1 := hid (HL.out.keep hbw)
    clear l0 l1 l2 hbw HD HM HL
    generalize wr = w1 at *
    have HFr := hid (vfree_at g gb n q.busy w1 HD1.out.len (by omega) HD1.out.bs (HD1.out.tab.cell 4))
    obtain ⟨fr, hfr⟩ : ∃ x, vFree q.busy = x := ⟨_, rfl⟩
    have hfr1 : 1 ≤ fr := by rw [← hfr]; exact vFree_pos Hi.out
    rw [hfr] at HFr
    clear hfr
    go_wp2_with (go_at_call 64; refine HFr.out.mono ?_; rintro e w' ⟨rfl, hw⟩; have hw := hw.symm; subst hw)
    go_loopg [8, 9] (i + 3) (fun gk s8 s9 wx => (∃ k : Nat, k ≤ i ∧ k + gk = i + 3 ∧ s8 = .slice none 0 0 ∧ s9 = .int .i64 (k : Int) ∧ wx = w1) ∨ (∃ A c, gk = 1 ∧ s8 = .slice A 1 c ∧ s9 = .int .i64 ((i + 1 : Nat) : Int) ∧ wx.ownsRow w1.heap.size 3 1 (.slice A 1 c) 1 [.int .i64 (i : Int)] ∧ Below w1.heap.size w1 wx))
    case atStart => exact .inl ⟨0, by omega, by omega, rfl, rfl, rfl⟩
    case round =>
      rcases hrel with ⟨k, hk, hgk, rfl, rfl, hw⟩ | ⟨A, c, rfl, rfl, rfl, hown, hb2⟩
      · have hw := hw.symm
        subst hw
        have c4 : w1.cell? ⟨g, 4, none⟩ = some (.slice (some ⟨gb, 0, none⟩) n n) := HD1.out.tab.cell 4
        have hkn : (k : Int) < (n : Int) := by omega
        by_cases hki : k < i
        · have hcell : w1.cell? ⟨gb, k, none⟩ = some (.bool true) := by rw [HD1.out.bs.cell k, List.getElem?_map, Hlt.out k hki]; rfl
          go_wp2_with fail
          go_roundg (i + 3 - (k + 1))
          case measure => omega
          case rel => exact .inl ⟨k + 1, by omega, by omega, rfl, by go_num, rfl⟩
        · obtain rfl : k = i := by omega
          have hcell : w1.cell? ⟨gb, k, none⟩ = some (.bool false) := by rw [HD1.out.bs.cell k, List.getElem?_map, Hi.out]; rfl
          go_wp2_with ((with_reducible show wpList _ _ _ (Oper.mk (some 61) _ _ _ _ _ :: _) _ _); refine wpList_app _ rfl _ _ 47 rfl w1.heap.size 3 (.int .i64 0) 1 8 intok (.slice none 0 0) 0 [] rfl (World.ownsRow_nil _ _ _ _) (.slice (some ⟨w1.heap.size, 0, none⟩) 1 1) 1 [.int .i64 (k : Int)] rfl (rowS_lit 1 #[.int .i64 (k : Int)] 1 _ rfl (by simp) (by simp [maxLen])) (by simp [Value.oneCell']) (by omega) (by simp [maxLen]) (by simp) ?_; intro v9 w9 hown9 hg9 hat9; obtain ⟨_, A9, c9', rfl, _, _, _⟩ := RowN.of_own hown9; have Hown9 := hid hown9; have Hb9 := hid (Below.trans (below_alloc w1 (.cells #[.int .i64 (k : Int)] 3)) (grown_below (World.ownsRow_nil _ w1.heap.size 3 1) (by simp) hg9)); clear hown9 hg9 hat9)
          go_roundg 1
          case measure => omega
          case rel => exact .inr ⟨A9, c9', rfl, rfl, by go_num, Hown9.out, Hb9.out⟩
      obtain ⟨gc, rfl⟩ : ∃ gc, A = some ⟨gc, 0, none⟩ := by
        rcases hown.2 with ⟨h1, h0⟩ | ⟨g2, cap, cur, h1, _⟩
        · omega
        · injection h1 with h1
          exact ⟨g2, h1⟩
      have hgc : w1.heap.size ≤ gc ∧ gc < wr.heap.size := (RowAtS.of_own hown).lt rfl
      have hcc : wr.cell? ⟨gc, 0, none⟩ = some (.int .i64 (i : Int)) := World.ownsRow.cells hown rfl 0 _ rfl
      have Hown := hid hown
      have HD2 := hid (HD1.out.keep hb2)
      have HM2 := hid (HM1.out.keep hb2)
      have HL2 := hid (HL1.out.keep hb2)
      have Hb2 := hid (Hbw.out.trans (hb2.mono Hbw.out.size))
      have Hq := hid (show q.busy.length = n ∧ q.put < 65536 ∧ q.got < 65536 ∧ base ≤ w1.heap.size from ⟨Hq0.out.1, Hq0.out.2.1, Hq0.out.2.2, Nat.le_trans hbl Hbw.out.size⟩)
      have Hgc := hid (show w.heap.size ≤ gc ∧ ¬ F gc ∧ gc ≠ gm from ⟨Nat.le_trans Hbw.out.size hgc.1, fun q => by have := (HD1.out.flt gc q).2; omega, fun e => by have := Blk.lt HM1.out; omega⟩)
      have Hcc := hid hcc
      clear hown hb2 HD1 HM1 HL1 Hbw HFr hgc hcc
      generalize wr = w2 at *
      obtain ⟨p, hp⟩ : ∃ p : Nat, 16 * i = p := ⟨_, rfl⟩
      have hpI : 16 * (i : Int) = (p : Int) := by omega
      obtain ⟨p8, hp8⟩ : ∃ x : Nat, p + 8 = x := ⟨_, rfl⟩
      have hp8I : (p : Int) + 8 = (p8 : Int) := by omega
      obtain ⟨p12, hp12⟩ : ∃ x : Nat, p + 12 = x := ⟨_, rfl⟩
      have hp12I : (p : Int) + 12 = (p12 : Int) := by omega
      obtain ⟨p14, hp14⟩ : ∃ x : Nat, p + 14 = x := ⟨_, rfl⟩
      have hp14I : (p : Int) + 14 = (p14 : Int) := by omega
      have Hp := hid (And.intro hp (And.intro hp8 (And.intro hp12 hp14)))
      have hbnd : p14 + 2 ≤ vSize n ∧ vSize n ≤ 100000 := by unfold vSize; omega
      have Hbnd := hid hbnd
      have hplt : p14 ≤ 10000 := by omega
      have hw8 : IntKind.i64.wrap (p8 : Int) = (p8 : Int) := IntWalk.i64_in _ (by omega)
      have hw12 : IntKind.i64.wrap (p12 : Int) = (p12 : Int) := IntWalk.i64_in _ (by omega)
      have hw14 : IntKind.i64.wrap (p14 : Int) = (p14 : Int) := IntWalk.i64_in _ (by omega)
      clear hp hp8 hp12 hp14 hbnd
      obtain ⟨M4, hM4⟩ : ∃ x, putAt (putAt (putAt (putAt M (b + p) 8 addr) (b + p8) 4 len) (b + p12) 2 fl) (b + p14) 2 0 = x := ⟨_, rfl⟩
      have HM4 := hid hM4
      clear hM4
      go_wp2_with fail
      go_loopg [10, 11, 12, 13, 14, 64] 2 (fun gk _ _ _ _ _ s64 wx => ∃ z : Nat, z + gk = 2 ∧ s64 = .int .i64 (z : Int) ∧ (z = 0 ∧ wx = w2 ∨ z = 1 ∧ ∃ gx, AddW w2 wx base gm b n g q (q.busy.set i true) m gb gch f F M4 gx [.int .i64 (addr : Int), .int .i64 (len : Int), .bool write] gc c i w1.heap.size))
      case atStart => exact ⟨0, rfl, rfl, .inl ⟨rfl, rfl⟩⟩
      case round =>
        obtain ⟨z, hgk, rfl, ⟨rfl, hw⟩ | ⟨rfl, gx, hA⟩⟩ := hrel
        · have hw := hw.symm
          subst hw
          obtain rfl : gk = 2 := by omega
          go_upto_region 23 with (first
            | ((with_reducible show wpList _ _ _ (Oper.mk (some 68) _ _ _ _ _ :: _) _ _); refine wpList_loadBlk rfl _ _ rfl gl rfl _ _ _ HL2.out Try.underlying93 bufinfo ?_)
            | ((with_reducible show wpList _ _ _ (Oper.mk none _ _ _ _ _ :: _) _ _); refine wpList_storeBlk rfl _ _ _ rfl _ _ rfl rfl _ _ (Blk.new _ _ _) bufinfo rfl rfl ?_; intro w4 hblk hg hsz; have HX4 := hid hblk; have Hb4 := hid (below_new_store hg); clear hblk hg hsz; (try simp only [Act.put])))
          obtain ⟨gx, hgx⟩ : ∃ x, w2.heap.size = x := ⟨_, rfl⟩
          rw [hgx] at HX4 ⊢
          have A4 := hid (show AddW w2 w4 base gm b n g q q.busy m gb gch f F M gx [.int .i64 (addr : Int), .int .i64 (len : Int), .bool write] gc c i w1.heap.size from
            ⟨HM2.out.keep Hb4.out, (HD2.out.keep Hb4.out).mid, HX4.out, own_below Hown.out Hb4.out, Below.frameF Hb4.out _, Hfm.out, fun e => by have := Blk.lt HM2.out; omega, fun e => by have := (HD2.out.flt gx e).2; omega, Hgc.out.2.2, Hgc.out.2.1⟩)
          clear hgx HX4 Hb4
          have e2 : w4.cell? ⟨gx, 2, none⟩ = some (.bool write) := A4.out.x.cell 2
          go_upto_if 80 with fail
          go_cut [12] from 80 to 82 (fun s wx => s = .int .i64 (fl : Int) ∧ wx = w4)
          case first =>
            cases write with
            | true =>
              have hf : (fl : Int) = 2 := by rw [Hfl.out]; rfl
              have Hf := hid hf
              clear hf
              go_wp2_with fail
              go_meet
              case rel => exact ⟨by rw [Hf.out]; rfl, rfl⟩
            | false =>
              have hf : (fl : Int) = 0 := by rw [Hfl.out]; rfl
              have Hf := hid hf
              clear hf
              go_wp2_with fail
              go_meet
              case rel => exact ⟨by rw [Hf.out], rfl⟩
          case rest =>
          obtain ⟨rfl, hw⟩ := hcut
          have hw := hw.symm
          subst hw
          have k4 := A4.out.kc
          have c4 := A4.out.c4
          have hcell : w4.cell? ⟨gb, i, none⟩ = some (.bool false) := by rw [A4.out.mid.bs.cell i, List.getElem?_map, Hi.out]; rfl
          have hz := A4.out.mid.bs.frozen i
          have hinI : (i : Int) < (n : Int) := by omega
          go_step
          go_upto_region 26 with fail
          go_region
          have A5 := hid ((A4.out.mark i true).keep (below_drew _))
          clear A4 e2 k4 c4 hcell hz
          generalize (w4.setCell ⟨gb, i, none⟩ (.bool true)).drew = w5 at *
          have hau := u64w addr (by omega)
          have hlu := u64w len (by omega)
          have hfu := u64w fl (by have := Hfl.out; split at this <;> omega)
          go_upto_region 27 with fail
          have x0 : w5.cell? ⟨gx, 0, none⟩ = some (.int .i64 (addr : Int)) := A5.out.x.cell 0
          have hp1 := Hp.out
          go_region_held3 (fun wy => wy.cell? ⟨gx, 0, none⟩ = some (.int .i64 (addr : Int))) (first | exact x0 | exact cell_below (below_drew _) x0 | exact A6.out.x.cell 0) (first
            | (go_at_call 62; (with_reducible refine (set8_at g gm b (vSize n) M p addr _ (A5.out.keep (below_drew _)).mem Hb.out (by have := Hbnd.out; omega) (by omega) (A5.out.keep (below_drew _)).c0).mono ?_); rintro e w6 ⟨⟨u, rfl⟩, m6, f6⟩; have A6 := hid ((A5.out.keep (below_drew _)).set_ f6 m6); clear m6 f6)
            | fail)
          obtain ⟨M1, hM1⟩ : ∃ x, putAt M (b + p) 8 addr = x := ⟨_, rfl⟩
          have Hb1 := hid (show b + vSize n ≤ M1.length by rw [← hM1, putAt_len (by have := Hb.out; have := Hbnd.out; omega)]; exact Hb.out)
          rw [hM1] at A6
          have HM1e := hid hM1
          clear hM1 A5 x0
          have x1 : w6.cell? ⟨gx, 1, none⟩ = some (.int .i64 (len : Int)) := A6.out.x.cell 1
          go_step
          go_upto_region 28 with fail
          go_region_held3 (fun wy => wy.cell? ⟨gx, 1, none⟩ = some (.int .i64 (len : Int))) (first | exact x1 | exact cell_below (below_drew _) x1 | exact A7.out.x.cell 1) (first
            | (go_at_call 62; (with_reducible refine (set4_at g gm b (vSize n) M1 p8 len _ (A6.out.keep (below_drew _)).mem Hb1.out (by have := Hbnd.out; omega) hlen (A6.out.keep (below_drew _)).c0).mono ?_); rintro e w7 ⟨⟨u, rfl⟩, m7, f7⟩; have A7 := hid ((A6.out.keep (below_drew _)).set_ f7 m7); clear m7 f7)
            | fail)
          obtain ⟨M2, hM2⟩ : ∃ x, putAt M1 (b + p8) 4 len = x := ⟨_, rfl⟩
          have Hb2 := hid (show b + vSize n ≤ M2.length by rw [← hM2, putAt_len (by have := Hb1.out; have := Hbnd.out; omega)]; exact Hb1.out)
          rw [hM2] at A7
          have HM2e := hid hM2
          have hfl16 : fl < 65536 := by have := Hfl.out; split at this <;> omega
          clear hM2 A6 x1
          go_step
          go_upto_region 30 with (go_at_call 62; (with_reducible refine (set2_at g gm b (vSize n) M2 p12 fl _ A7.out.mem Hb2.out (by have := Hbnd.out; omega) hfl16 A7.out.c0).mono ?_); rintro e w8 ⟨⟨u, rfl⟩, m8, f8⟩; have A8 := hid (A7.out.set_ f8 m8); clear m8 f8)
          obtain ⟨M3, hM3⟩ : ∃ x, putAt M2 (b + p12) 2 fl = x := ⟨_, rfl⟩
          have Hb3 := hid (show b + vSize n ≤ M3.length by rw [← hM3, putAt_len (by have := Hb2.out; have := Hbnd.out; omega)]; exact Hb2.out)
          rw [hM3] at A8
          have HM3e := hid hM3
          clear hM3 A7
          go_wp2_with (go_at_call 62; refine (show Calls Try.prog 62 #[.pointer (some ⟨g, 0, none⟩), .int .i64 (p14 : Int), .int .i64 2, .int .u64 0] _ _ from set2_at g gm b (vSize n) M3 p14 0 _ A8.out.mem Hb3.out (by have := Hbnd.out; omega) (by decide) A8.out.c0).mono ?_; rintro e w9 ⟨⟨u, rfl⟩, m9, f9⟩; have A9 := hid (A8.out.set_ f9 m9); clear m9 f9)
          rw [show putAt M3 (b + p14) 2 0 = M4 by rw [← HM4.out, HM1e.out, HM2e.out, HM3e.out]] at A9
          go_roundg 1
          case measure => omega
          case rel => exact ⟨1, rfl, rfl, .inr ⟨rfl, gx, A9.out⟩⟩
        obtain rfl : gk = 1 := by omega
        have A9 := hid hA
        clear hA HD2 HM2 HL2
        generalize wr = w9 at *
        have k9 := A9.out.kc
        have c5 := A9.out.c5
        go_upto_region 32 with fail
        obtain ⟨w10, hrun, hm10, hg10⟩ := MapI.put (A9.out.mid.map.keep (below_drew w9)) Try.underlying3 Try.underlying133 (by simp only [maxLen]; have := Hm1.out; omega) i (by omega) (.slice (some ⟨gc, 0, none⟩) 1 c)
        have Hm10 := hid hm10
        have Hg10 := hid hg10
        clear hm10 hg10
        go_cut [] from 131 to 138 (fun wx => wx = w10)
        case first =>
          go_region_law (fail)
          all_goals
            go_wp2_with fail
            go_meet
            case rel => rfl
        case rest =>
        have hcut := hcut.symm
        subst hcut
        obtain ⟨d10, m10, nm10, fr10, kc10⟩ := (A9.out.keep (below_drew w9)).noted Hi.out Hq.out.1 Hq.out.2.1 Hq.out.2.2.1 Hq.out.2.2.2 Hg10.out Hm10.out
        have D10 := hid d10
        have M10 := hid m10
        have Nm := hid nm10
        have Fr10 := hid fr10
        clear A9 k9 c5 hrun Hm10 Hg10 d10 m10 nm10 fr10
        obtain ⟨pm, hpm⟩ : ∃ x : Nat, q.put % n = x := ⟨_, rfl⟩
        have hpmn : pm < n := by rw [← hpm]; exact Nat.mod_lt _ (by omega)
        have hpmI : (q.put : Int) % (n : Int) = (pm : Int) := by rw [← hpm]; exact (Int.natCast_emod _ _).symm
        have hpmT : Int.tmod (q.put : Int) (n : Int) = (pm : Int) := by rw [Int.tmod_eq_emod_of_nonneg (by omega)]; exact hpmI
        obtain ⟨pa, hpa⟩ : ∃ x : Nat, 16 * n + 4 + 2 * pm = x := ⟨_, rfl⟩
        have hpaI : 16 * (n : Int) + 4 + 2 * (pm : Int) = (pa : Int) := by omega
        obtain ⟨p2, hp2⟩ : ∃ x : Nat, 16 * n + 2 = x := ⟨_, rfl⟩
        have hp2I : 16 * (n : Int) + 2 = (p2 : Int) := by omega
        have hb5 : pa + 2 ≤ vSize n ∧ p2 + 2 ≤ vSize n := by unfold vSize; omega
        have hw1 : IntKind.i64.wrap (16 * (n : Int) + 4) = 16 * (n : Int) + 4 := IntWalk.i64_in _ (by omega)
        have hw2 : IntKind.i64.wrap (2 * (pm : Int)) = 2 * (pm : Int) := IntWalk.i64_in _ (by omega)
        have hw3 : IntKind.i64.wrap (pa : Int) = (pa : Int) := IntWalk.i64_in _ (by omega)
        have hw4 : IntKind.i64.wrap (p2 : Int) = (p2 : Int) := IntWalk.i64_in _ (by omega)
        have hiu := u64w i (by omega)
        have Hpa := hid (And.intro hpm (And.intro hpa hp2))
        have Hb5 := hid hb5
        have hn0 : ¬ ((n : Int) = 0) := by omega
        have hn0N : ¬ n = 0 := by omega
        have hwm : IntKind.i64.wrap (pm : Int) = (pm : Int) := IntWalk.i64_in _ (by omega)
        have hq := Hq.out.2.1
        have HAv := hid (fun wy (c1 : wy.cell? ⟨g, 1, none⟩ = some (.int .i64 (n : Int))) => vavail_at g n wy (by omega) c1)
        obtain ⟨pt, hpt⟩ : ∃ x, q.put = x := ⟨_, rfl⟩
        have Hpt := hid hpt
        rw [hpt] at hpmI hpmT hq
        have g0 : w10.drew.cell? ⟨g, 0, none⟩ = some (.slice (some ⟨gm, b, none⟩) (vSize n) (vSize n)) := (D10.out.keep (below_drew _)).tab.cell 0
        have g1 : w10.cell? ⟨g, 1, none⟩ = some (.int .i64 (n : Int)) := D10.out.tab.cell 1
        have g2 : w10.cell? ⟨g, 2, none⟩ = some (.int .i64 (pt : Int)) := by rw [← hpt]; exact D10.out.tab.cell 2
        have Hl4 := hid (show b + vSize n ≤ M4.length by
          have h1 := Hbnd.out
          have h2 := Hb.out
          have h3 := Hp.out
          rw [← HM4.out, putAt_len, putAt_len, putAt_len, putAt_len]
          all_goals (try rw [putAt_len])
          all_goals (try rw [putAt_len])
          all_goals (try rw [putAt_len])
          all_goals omega)
        clear hpm hpa hp2 hb5 hpt
        go_step
        go_upto_region 33 with fail
        go_cut [] from 139 to 164 (fun wx => MemAt wx gm (putAt M4 (b + pa) 2 i) ∧ DrvAt wx base gm b n g { q with busy := q.busy.set i true } (m + 1) gb gch (updI f i (some (.slice (some ⟨gc, 0, none⟩) 1 c))) (fun k => F k ∨ k = gc) ∧ Frame (fun k => F k ∨ k = gm) w2 wx ∧ wx.cell? ⟨gc, 0, none⟩ = some (.int .i64 (i : Int)))
        case first =>
          go_region_held3 (fun wy => wy.cell? ⟨g, 2, none⟩ = some (.int .i64 (pt : Int)) ∧ wy.cell? ⟨g, 1, none⟩ = some (.int .i64 (n : Int)) ∧ wy.cell? ⟨gc, 0, none⟩ = some (.int .i64 (i : Int))) (first | exact ⟨g2, g1, kc10⟩ | exact ⟨cell_below (below_drew _) g2, cell_below (below_drew _) g1, cell_below (below_drew _) kc10⟩ | exact ⟨r2, r1, rc⟩) (first
            | (go_at_call 59; refine (HAv.out _ (by first | exact g1 | exact cell_below (below_drew _) g1)).mono ?_; rintro e w' ⟨rfl, hw⟩; have hw := hw.symm; subst hw)
            | (go_at_call 62; (with_reducible refine (set2_at g gm b (vSize n) M4 pa i _ (M10.out.keep (below_drew _)) Hl4.out Hb5.out.1 (by omega) g0).mono ?_); rintro e w11 ⟨⟨u, rfl⟩, m11, f11⟩; have D11 := hid ((D10.out.keep (below_drew _)).frame f11 (fun k hk e => Nm.out (e ▸ hk))); have M11 := hid m11; have r2 : w11.cell? ⟨g, 2, none⟩ = some (.int .i64 (pt : Int)) := (D11.out.tab.cell 2).trans (congrArg (fun z : Nat => some (Value.int .i64 (z : Int))) Hpt.out); have r1 : w11.cell? ⟨g, 1, none⟩ = some (.int .i64 (n : Int)) := D11.out.tab.cell 1; have rc : w11.cell? ⟨gc, 0, none⟩ = some (.int .i64 (i : Int)) := cell_frame f11 (cell_below (below_drew _) kc10) Hgc.out.2.2; have Fr11 := hid ((Fr10.out.trans (Below.frameF (below_drew _) _) (fun _ _ h => h)).trans f11 (fun k _ e => .inr e)); clear m11 f11)
            | fail)
          all_goals
            go_wp2_with fail
            go_meet
            case rel => exact ⟨M11.out, D11.out, Fr11.out, rc⟩
        case rest =>
        obtain ⟨m12, d12, fr12, kc12⟩ := hcut
        have M12 := hid m12
        have D12 := hid d12
        have Fr12 := hid fr12
        obtain ⟨M5, hM5⟩ : ∃ x, putAt M4 (b + pa) 2 i = x := ⟨_, rfl⟩
        rw [hM5] at M12
        have Hl5 := hid (show b + vSize n ≤ M5.length by rw [← hM5, putAt_len (by have := Hl4.out; have := Hb5.out; omega)]; exact Hl4.out)
        have HM5 := hid hM5
        clear m12 d12 fr12 D10 M10 Fr10 hM5 g0 g1 g2 kc10
        generalize wc = w12 at *
        obtain ⟨pt1, hpt1⟩ : ∃ x, (pt + 1) % 65536 = x := ⟨_, rfl⟩
        have hpt1l : pt1 < 65536 := by omega
        have HNx := hid (vnext_at pt w12 hq)
        rw [hpt1] at HNx
        have Hpt1 := hid hpt1
        have g2 : w12.cell? ⟨g, 2, none⟩ = some (.int .i64 (pt : Int)) := (D12.out.tab.cell 2).trans (congrArg (fun z : Nat => some (Value.int .i64 (z : Int))) Hpt.out)
        have z2 := D12.out.tab.frozen 2
        clear hpt1
        go_step
        go_upto_region 35 with (go_at_call 60; refine HNx.out.mono ?_; rintro e w' ⟨rfl, hw⟩; have hw := hw.symm; subst hw)
        have D13 := hid (D12.out.put_ pt1 hpt1l)
        have f13 := frame_mem (grown_set w12 g 2 (.int .i64 (pt1 : Int)))
        have M13 := hid (M12.out.frame f13 (fun e => Hggm.out e.symm))
        have Fr13 := hid (Fr12.out.trans f13 (fun k _ e => .inl (by subst e; exact Hfg.out)))
        have kc13 : (w12.setCell ⟨g, 2, none⟩ (.int .i64 (pt1 : Int))).cell? ⟨gc, 0, none⟩ = some (.int .i64 (i : Int)) := cell_frame f13 kc12 (fun e => Hgc.out.2.1 (e ▸ Hfg.out))
        clear D12 M12 Fr12 f13 kc12 z2 g2 HNx
        generalize w12.setCell ⟨g, 2, none⟩ (.int .i64 (pt1 : Int)) = w13 at *
        have g0 : w13.drew.cell? ⟨g, 0, none⟩ = some (.slice (some ⟨gm, b, none⟩) (vSize n) (vSize n)) := (D13.out.keep (below_drew _)).tab.cell 0
        have g1 : w13.cell? ⟨g, 1, none⟩ = some (.int .i64 (n : Int)) := D13.out.tab.cell 1
        have g2 : w13.cell? ⟨g, 2, none⟩ = some (.int .i64 (pt1 : Int)) := D13.out.tab.cell 2
        have hpu := u64w pt1 (by omega)
        go_region_held3 (fun wy => wy.cell? ⟨g, 2, none⟩ = some (.int .i64 (pt1 : Int)) ∧ wy.cell? ⟨g, 1, none⟩ = some (.int .i64 (n : Int))) (first | exact ⟨g2, g1⟩ | exact ⟨cell_below (below_drew _) g2, cell_below (below_drew _) g1⟩ | exact ⟨r2, r1⟩) (first
          | (go_at_call 59; refine (HAv.out _ (by first | exact g1 | exact cell_below (below_drew _) g1)).mono ?_; rintro e w' ⟨rfl, hw⟩; have hw := hw.symm; subst hw)
          | (go_at_call 62; (with_reducible refine (set2_at g gm b (vSize n) M5 p2 pt1 _ (M13.out.keep (below_drew _)) Hl5.out Hb5.out.2 hpt1l g0).mono ?_); rintro e w14 ⟨⟨u, rfl⟩, m14, f14⟩; have D14 := hid ((D13.out.keep (below_drew _)).frame f14 (fun k hk e => Nm.out (e ▸ hk))); have M14 := hid m14; have r2 : w14.cell? ⟨g, 2, none⟩ = some (.int .i64 (pt1 : Int)) := D14.out.tab.cell 2; have r1 : w14.cell? ⟨g, 1, none⟩ = some (.int .i64 (n : Int)) := D14.out.tab.cell 1; have rc := cell_frame f14 (cell_below (below_drew _) kc13) Hgc.out.2.2; have Fr14 := hid ((Fr13.out.trans (Below.frameF (below_drew _) _) (fun _ _ h => h)).trans f14 (fun k _ e => .inr e)); clear m14 f14)
          | fail)
        all_goals
          go_wp2_with fail
          go_ret2
          have hM := vAddM_eq n b i q.put p p8 p12 p14 pm pa p2 pt1 addr len fl M M4 M5 Hp.out Hpa.out (by rw [Hpt.out]; exact Hpt1.out) HM4.out HM5.out
          have h14 := M14.out
          rw [hM] at h14
          have eq : q.add i = { { q with busy := q.busy.set i true } with put := pt1 } := by unfold VQ.add; rw [Hpt.out, Hpt1.out]
          refine ⟨rfl, fun k => F k ∨ k = gc, ⟨gb, gch, _, by rw [eq]; exact D14.out⟩, h14, (Below.frameF Hb2.out _).trans Fr14.out (fun _ _ h => h), fun k hk => ?_⟩
          rcases hk with hk | hk
          · exact .inl hk
          · exact .inr (by rw [hk]; exact Hgc.out.1)
end Go.Proofs.Ytgiegiobigdplaa
