/- A connection's window, State, Recv. -/
import Derived.Test.YtahlcjkcdgahkaaMapU
import Derived.Test.YtahlcjkcdgahkaaTcpA
namespace Go.Proofs.Ytahlcjkcdgahkaa
section
section
open Go Go.RowKit
open Go.Maps (Keyed)
open Go.ChangeMaps Go.MapKept Go.WideShapes

section
variable {P : Program} {k : TypeId} {w : World} {b n : Nat} {f : Nat → Option Value}
theorem MapU.clear_ {t e : TypeId} (h : MapU P k w b n f) (ht : P.underlying t = some (.map k e)) (ty : TypeId) :
    ∃ w', (Builtin.clear_ #[t] ty #[.map (some b)]).run P w = .ok (.tuple #[]) w' ∧ MapU P k w' b 0 (fun _ => none) ∧ w.grownBy w' (some b) := by
  obtain ⟨D, ⟨es, clock, hb, hF, hs, hD⟩, h2⟩ := h
  have hrun : (Builtin.clear_ #[t] ty #[.map (some b)]).run P w = .ok (.tuple #[]) (setBlock w b (.map #[] clock)) := by
    simp [Builtin.clear_, run_underlying ht, Go.MapKept.run_getObj_map hb, Go.MapKept.run_setObj_map _ hb, setBlock, Result.andThen]
  refine ⟨_, hrun, ⟨.map [], ⟨#[], clock, (heap_set hb).1, ⟨by simp, stamped_empty clock, by simp⟩, Nat.le_refl _, rfl⟩, fun _ _ _ => rfl⟩, ?_⟩
  exact ⟨rfl, rfl, rfl, by simp [setBlock], fun i _ hi => heap_setBlock_other hb _ (fun e => hi (by rw [e]))⟩
/-- clear in a plain walk -/
theorem wpList_clearU {ops : Array Oper} {rest : List Oper} {o : Oper} {a : Act} {Q : Exit → Act → World → Prop} (hgd : o.guard = none) (m : Operand) (t e : TypeId)
    (ho : o.op = .call { callee := .builtin .clear, args := #[m], argTypes := #[t] })
    (ht : P.underlying t = some (.map k e)) (hm : a.eval m = .map (some b)) (hown : MapU P k w b n f)
    (h : ∀ w', MapU P k w' b 0 (fun _ => none) → w.grownBy w' (some b) → wpList P ops Q rest (a.put o.dst (.tuple #[])) w') : wpList P ops Q (o :: rest) a w := by
  refine wpList_plain hgd fun K hK => ?_
  obtain ⟨w', hrun, r1, r2⟩ := hown.clear_ ht o.type
  unfold Oper.wp
  simp [execOp, ho, resolve, invoke, builtin, hm, hrun, Result.andThen]
  exact hK _ _ (h w' r1 r2)
end
end
section
open Go Go.RowKit
attribute [local go_sem ↓] Go.wp_at_zero Go.wp_at_succ
set_option maxRecDepth 100000

def earlyV (e : Nat → Option UInt8) (k : Nat) : Option Value := (e k).map fun b => .int .u8 (b.toNat : Int)
structure ConnAt (w : World) (base g : Nat) (c : TConn) (m : Nat) (vr : Value) (gM : Nat) (vb : Value) (f : Nat → Option Value) (F : Nat → Prop) : Prop where
  tab : Blk w g 84 (c.cells vr (.map (some gM)) vb)
  ready : OwnBs w base 5 vr c.inn.ready
  bytes : RowAtS w base 5 1 vb c.out.bytes.length (c.out.bytes.map u8v)
  map : MapU Try.prog 22 w gM m f
  early : ∀ k, k < 4294967296 → f k = earlyV c.inn.early k
  fg : F g
  fM : F gM
  fr : ∀ k, vr.ownBlock = some k → F k
  fb : ∀ k, vb.ownBlock = some k → F k
  flt : ∀ k, F k → base ≤ k ∧ k < w.heap.size
  ap : ∀ k, vr.ownBlock = some k → vb.ownBlock ≠ some k
/-- a connection in block g; at most m stores into its map; F: its blocks -/
def ConnInv (w : World) (base g : Nat) (c : TConn) (m : Nat) (F : Nat → Prop) : Prop := ∃ vr gM vb f, ConnAt w base g c m vr gM vb f F
/-- what begins a connection -/
def tBegins (flags : Int) : Prop := bits .andNot .i64 flags 8 = 2
def tMss (ms : Int) : Int := max 64 (min 1460 (if ms = 0 then 536 else ms))
def tNew (s : TSeg) (first : Nat) : TConn :=
  { inn := ⟨(s.seq + 1) % 4294967296, [], fun _ => none, 0, false, false⟩
    out := ⟨first, (first + 1) % 4294967296, (first + 1) % 4294967296, [], s.window, tMss s.mss, 0, 0, false, false⟩
    src := s.dst, dst := s.src, state := 1, begin_ := true, acks := false, again := false, gave := false, off := false }
theorem conninfo : (Try.prog.info? 84).map (·.size) = some 24 := by kernel_rfl
theorem new_done (w : World) (s : TSeg) (v : Value) (first : Nat) (mm : Int) (hmm : tMss s.mss = mm) :
    ConnInv (((w.alloc (.cells (s.cells v).toArray 30)).alloc (.cells #[.int .u32 (((s.seq : Int) + 1) % 4294967296), .slice none 0 0, .map (some (w.heap.size + 1 + 1)), .int .u32 0, .bool false, .bool false, .int .u32 (first : Int), .int .u32 (((first : Int) + 1) % 4294967296), .int .u32 (((first : Int) + 1) % 4294967296), .slice none 0 0, .int .i64 s.window, .int .i64 mm, .int .i64 0, .int .i64 0, .bool false, .bool false, .int .i64 s.dst, .int .i64 s.src, .int .i64 1, .bool true, .bool false, .bool false, .bool false, .bool false] 84)).alloc (.map #[] 0)) w.heap.size (w.heap.size + 1) (tNew s first) 0 (fun k => k = w.heap.size + 1 ∨ k = w.heap.size + 1 + 1) := by
  subst hmm
  have e1 : (((s.seq : Int) + 1) % 4294967296) = (((s.seq + 1) % 4294967296 : Nat) : Int) := by omega
  have e2 : (((first : Int) + 1) % 4294967296) = (((first + 1) % 4294967296 : Nat) : Int) := by omega
  rw [e1, e2]
  have hb := (Blk.new (w.alloc (.cells (s.cells v).toArray 30)) 84 #[.int .u32 (((s.seq + 1) % 4294967296 : Nat) : Int), .slice none 0 0, .map (some (w.heap.size + 1 + 1)), .int .u32 0, .bool false, .bool false, .int .u32 (first : Int), .int .u32 (((first + 1) % 4294967296 : Nat) : Int), .int .u32 (((first + 1) % 4294967296 : Nat) : Int), .slice none 0 0, .int .i64 s.window, .int .i64 (tMss s.mss), .int .i64 0, .int .i64 0, .bool false, .bool false, .int .i64 s.dst, .int .i64 s.src, .int .i64 1, .bool true, .bool false, .bool false, .bool false, .bool false]).alloc (.map #[] 0)
  rw [World.size_alloc] at hb
  have hm := MapU.made Try.prog 22 ((w.alloc (.cells (s.cells v).toArray 30)).alloc (.cells #[.int .u32 (((s.seq + 1) % 4294967296 : Nat) : Int), .slice none 0 0, .map (some (w.heap.size + 1 + 1)), .int .u32 0, .bool false, .bool false, .int .u32 (first : Int), .int .u32 (((first + 1) % 4294967296 : Nat) : Int), .int .u32 (((first + 1) % 4294967296 : Nat) : Int), .slice none 0 0, .int .i64 s.window, .int .i64 (tMss s.mss), .int .i64 0, .int .i64 0, .bool false, .bool false, .int .i64 s.dst, .int .i64 s.src, .int .i64 1, .bool true, .bool false, .bool false, .bool false, .bool false] 84))
  simp only [World.size_alloc] at hm
  exact ⟨.slice none 0 0, w.heap.size + 1 + 1, .slice none 0 0, fun _ => none, hb, OwnBs.nil _ _ _, RowAtS.nil _ _ _ _, hm, fun _ _ => rfl, .inl rfl, .inr rfl, fun k hk => by simp [Value.ownBlock] at hk, fun k hk => by simp [Value.ownBlock] at hk, fun k hk => by simp only [World.size_alloc]; omega, fun k hk => by simp [Value.ownBlock] at hk⟩
def TNewPost (s : TSeg) (first : Nat) (w : World) (e : Ending) (w' : World) : Prop := ∃ g F, e = .returned (.tuple #[.pointer (some ⟨g, 0, none⟩), .int .i64 0]) ∧ ConnInv w' w.heap.size g (tNew s first) 0 F ∧ Below w.heap.size w w'
theorem new_any (s : TSeg) (A : Option Addr) (n cap : Nat) (first : Nat) (w : World) (hb : tBegins s.flags) (hsq : s.seq < 4294967296) :
    Calls Try.prog 22 #[s.val (.slice A n cap), .int .u32 (first : Int)] w (TNewPost s first w) := by
  obtain ⟨s0, d0, sq, ak, fl, wi, ms, body⟩ := s
  have hmm := @run_makeMap Try.prog
  have hfl : bits .andNot .i64 fl 8 = 2 := hb
  have hflb : (bits .andNot .i64 fl 8 != 2) = false := by rw [hfl]; rfl
  dsimp only [TSeg.val, TSeg.cells]
  by_cases h0 : ms = 0
  · subst h0
    go_enter Try.func22, Try.ntmps22
    go_wp2_with fail
    go_ret2
    exact ⟨w.heap.size + 1, _, rfl, new_done w ⟨s0, d0, sq, ak, fl, wi, 0, body⟩ (.slice A n cap) first _ rfl, below_alloc' (below_alloc' (below_alloc w _) _) _⟩
  have h0b : (ms == 0) = false := by simpa using h0
  have H0 := hid h0
  go_enter Try.func22, Try.ntmps22
  go_wp2_with fail
  all_goals
    go_ret2
    refine ⟨w.heap.size + 1, _, rfl, new_done w ⟨s0, d0, sq, ak, fl, wi, ms, body⟩ (.slice A n cap) first _ ?_, below_alloc' (below_alloc' (below_alloc w _) _) _⟩
    show tMss ms = _
    unfold tMss
    rw [if_neg H0.out]
    omega
end
end
section
open Go Go.RowKit
attribute [local go_sem ↓] Go.wp_at_zero Go.wp_at_succ
set_option maxRecDepth 100000

theorem ConnAt.same {w w' : World} {base g : Nat} {c : TConn} {m : Nat} {vr : Value} {gM : Nat} {vb : Value} {f : Nat → Option Value} {F : Nat → Prop} (h : ConnAt w base g c m vr gM vb f F) (hb : Below w.heap.size w w') : ConnAt w' base g c m vr gM vb f F :=
  ⟨h.tab.keep hb, h.ready.below hb, h.bytes.keep hb, h.map.keep hb, h.early, h.fg, h.fM, h.fr, h.fb, fun k hk => ⟨(h.flt k hk).1, Nat.lt_of_lt_of_le (h.flt k hk).2 hb.size⟩, h.ap⟩
theorem ConnInv.keep {w w' : World} {base g : Nat} {c : TConn} {m : Nat} {F : Nat → Prop} (h : ConnInv w base g c m F) (hb : Below w.heap.size w w') : ConnInv w' base g c m F := by
  obtain ⟨vr, gM, vb, f, h⟩ := h
  exact ⟨vr, gM, vb, f, h.same hb⟩
theorem own_same {w w' : World} {base size n : Nat} {e : TypeId} {v : Value} {xs : List Value} (ho : w.ownsRow base e size v n xs) (hs : ∀ g, v.ownBlock = some g → w'.heap[g]? = w.heap[g]?) : w'.ownsRow base e size v n xs := by
  refine ⟨ho.1, ?_⟩
  rcases ho.2 with h0 | ⟨g, cap, cur, rfl, h1, h2, h3⟩
  · exact .inl h0
  · exact .inr ⟨g, cap, cur, rfl, h1, (hs g rfl).trans h2, h3⟩
theorem ConnAt.sameF {w w' : World} {base g : Nat} {c : TConn} {m : Nat} {vr : Value} {gM : Nat} {vb : Value} {f : Nat → Option Value} {F : Nat → Prop} (h : ConnAt w base g c m vr gM vb f F) (hs : ∀ k, F k → w'.heap[k]? = w.heap[k]?) (hz : w.heap.size ≤ w'.heap.size) : ConnAt w' base g c m vr gM vb f F :=
  ⟨(hs g h.fg).trans h.tab, own_same h.ready (fun k hk => hs k (h.fr k hk)), h.bytes.same (fun k hk => hs k (h.fb k hk)), h.map.block (hs gM h.fM), h.early, h.fg, h.fM, h.fr, h.fb, fun k hk => ⟨(h.flt k hk).1, Nat.lt_of_lt_of_le (h.flt k hk).2 hz⟩, h.ap⟩
theorem ConnInv.lt {w : World} {base g : Nat} {c : TConn} {m : Nat} {F : Nat → Prop} (h : ConnInv w base g c m F) (k : Nat) (hk : F k) : base ≤ k ∧ k < w.heap.size := by
  obtain ⟨vr, gM, vb, f, h⟩ := h
  exact h.flt k hk
theorem ConnInv.fg {w : World} {base g : Nat} {c : TConn} {m : Nat} {F : Nat → Prop} (h : ConnInv w base g c m F) : F g := by
  obtain ⟨vr, gM, vb, f, h⟩ := h
  exact h.fg
theorem ConnInv.frame {w w' : World} {base g : Nat} {c : TConn} {m : Nat} {F F' : Nat → Prop} (h : ConnInv w base g c m F) (hf : Frame F' w w') (hd : ∀ k, F k → ¬ F' k) : ConnInv w' base g c m F := by
  obtain ⟨vr, gM, vb, f, h⟩ := h
  exact ⟨vr, gM, vb, f, h.sameF (fun k hk => hf.block k (h.flt k hk).2 (hd k hk)) hf.size⟩
theorem ConnInv.mono {w : World} {base base' g : Nat} {c : TConn} {m m' : Nat} {F : Nat → Prop} (h : ConnInv w base g c m F) (hb : base' ≤ base) (hm : m ≤ m') : ConnInv w base' g c m' F := by
  obtain ⟨vr, gM, vb, f, h⟩ := h
  exact ⟨vr, gM, vb, f, h.tab, h.ready.mono hb, h.bytes.mono hb, h.map.mono hm, h.early, h.fg, h.fM, h.fr, h.fb, fun k hk => ⟨Nat.le_trans hb (h.flt k hk).1, (h.flt k hk).2⟩, h.ap⟩
/-- some cells of the connection's own block are stored: what is elsewhere stays -/
theorem ConnAt.stored {w w' : World} {base g : Nat} {c c' : TConn} {m : Nat} {vr : Value} {gM : Nat} {vb : Value} {f : Nat → Option Value} {F : Nat → Prop} (h : ConnAt w base g c m vr gM vb f F) (hg : w.grownBy w' (some g))
    (ht : Blk w' g 84 (c'.cells vr (.map (some gM)) vb)) (h1 : c'.inn.ready = c.inn.ready) (h2 : c'.inn.early = c.inn.early) (h3 : c'.out.bytes = c.out.bytes) : ConnAt w' base g c' m vr gM vb f F := by
  refine ⟨ht, ?_, ?_, h.map.grownCells h.tab hg, ?_, h.fg, h.fM, h.fr, h.fb, fun k hk => ⟨(h.flt k hk).1, Nat.lt_of_lt_of_le (h.flt k hk).2 hg.size⟩, h.ap⟩
  · rw [h1]; exact ownBs_store h.ready h.tab (by decide) hg
  · rw [h3]
    exact h.bytes.kept hg fun k hk e => by
      injection e with e
      subst e
      exact h.bytes.ne h.tab (by decide) hk
  · rw [h2]; exact h.early
theorem window_any (g : Nat) (A : Option Addr) (n cap : Nat) (w : World) (hc : w.cell? ⟨g, 1, none⟩ = some (.slice A n cap)) (hn : n ≤ 16384) :
    Calls Try.prog 45 #[.pointer (some ⟨g, 0, none⟩)] w fun e w' => e = .returned (.int .i64 (16384 - (n : Int))) ∧ w' = w := by
  have hw : IntKind.i64.wrap (16384 - (n : Int)) = 16384 - (n : Int) := IntWalk.i64_in _ (by omega)
  go_enter Try.func45, Try.ntmps45
  go_wp2_with fail
  go_ret
  exact ⟨rfl, rfl⟩
theorem state_any (base g : Nat) (c : TConn) (m : Nat) (F : Nat → Prop) (w : World) (h : ConnInv w base g c m F) :
    Calls Try.prog 18 #[.pointer (some ⟨g, 0, none⟩)] w fun e w' => e = .returned (.int .i64 c.state) ∧ w' = w := by
  obtain ⟨vr, gM, vb, f, h⟩ := h
  have c18 : w.cell? ⟨g, 18, none⟩ = some (.int .i64 c.state) := h.tab.cell 18
  clear h
  go_enter Try.func18, Try.ntmps18
  go_wp2_with fail
  go_ret
  exact ⟨rfl, rfl⟩
def tRecv (c : TConn) : TConn := { c with inn := { c.inn with ready := [] }, acks := c.acks || decide ((16384 - (c.inn.ready.length : Int)) < 1460) }
def RecvPost (base g : Nat) (c : TConn) (m : Nat) (F : Nat → Prop) (w : World) (e : Ending) (w' : World) : Prop :=
  ∃ v' F', e = .returned v' ∧ OwnBs w' base 5 v' c.inn.ready ∧ ConnInv w' base g (tRecv c) m F' ∧ Frame F w w' ∧ w'.heap.size = w.heap.size ∧ (∀ k, F' k → F k) ∧ ∀ k, v'.ownBlock = some k → ¬ F' k
theorem ownBs_ne {w : World} {base g : Nat} {t e : TypeId} {v : Value} {bs : List UInt8} {xs : List Value} (h : OwnBs w base e v bs) (hb : Blk w g t xs) (ht : t ≠ e) : v.ownBlock ≠ some g := (RowAtS.of_own h).ne hb ht
theorem own_ne_map {P : Program} {k e : TypeId} {w : World} {b m n base size : Nat} {f : Nat → Option Value} {v : Value} {xs : List Value} (h : RowAtS w base e size v n xs) (hm : MapU P k w b m f) : v.ownBlock ≠ some b := by
  rcases h.2 with ⟨rfl, _⟩ | ⟨g2, off, cap, cur, rfl, _, hh, _⟩
  · simp [Value.ownBlock]
  · intro e2
    simp [Value.ownBlock] at e2
    exact hm.ne hh e2
theorem recv_done {base g m gM : Nat} {c : TConn} {F : Nat → Prop} {w : World} {vr vb : Value} {f : Nat → Option Value} (h : ConnAt w base g c m vr gM vb f F) (b : Bool) (hb : (c.acks || decide ((16384 - (c.inn.ready.length : Int)) < 1460)) = b) :
    RecvPost base g c m F w (.returned vr) ((w.setCell ⟨g, 1, none⟩ (.slice none 0 0)).setCell ⟨g, 20, none⟩ (.bool b)) := by
  subst hb
  have g1 := grown_set w g 1 (.slice none 0 0)
  have g2 := grown_set (w.setCell ⟨g, 1, none⟩ (.slice none 0 0)) g 20 (.bool (c.acks || decide ((16384 - (c.inn.ready.length : Int)) < 1460)))
  have gg := grown_trans g1 g2
  have htab := (h.tab.set_ 1 (.slice none 0 0)).set_ 20 (.bool (c.acks || decide ((16384 - (c.inn.ready.length : Int)) < 1460)))
  refine ⟨vr, fun k => F k ∧ vr.ownBlock ≠ some k, rfl, ownBs_store h.ready h.tab (by decide) gg, ⟨.slice none 0 0, gM, vb, f, htab, OwnBs.nil _ _ _, ?_, h.map.grownCells h.tab gg, h.early, ⟨h.fg, ownBs_ne h.ready h.tab (by decide)⟩, ⟨h.fM, own_ne_map (RowAtS.of_own h.ready) h.map⟩, fun k hk => by simp [Value.ownBlock] at hk, fun k hk => ⟨h.fb k hk, fun e => h.ap k e hk⟩, fun k hk => ⟨(h.flt k hk.1).1, by simpa using (h.flt k hk.1).2⟩, fun k hk => by simp [Value.ownBlock] at hk⟩, frame_grown gg (fun k hk => by injection hk with hk; subst hk; exact h.fg), by simp, fun k hk => hk.1, fun k hk q => q.2 hk⟩
  exact h.bytes.kept gg fun k hk e => by
    injection e with e
    subst e
    exact h.bytes.ne h.tab (by decide) hk
theorem recv_any (base g : Nat) (c : TConn) (m : Nat) (F : Nat → Prop) (w : World) (h : ConnInv w base g c m F) (hr : c.inn.ready.length ≤ 16384) :
    Calls Try.prog 19 #[.pointer (some ⟨g, 0, none⟩)] w (RecvPost base g c m F w) := by
  obtain ⟨vr, gM, vb, f, h⟩ := h
  have H := hid h
  obtain ⟨n, hn⟩ : ∃ n, c.inn.ready.length = n := ⟨_, rfl⟩
  obtain ⟨A, cap, rfl⟩ := slice_len h.ready.bs hn
  have Hn := hid hn
  have c1 : w.cell? ⟨g, 1, none⟩ = some (.slice A n cap) := h.tab.cell 1
  have c20 : w.cell? ⟨g, 20, none⟩ = some (.bool c.acks) := h.tab.cell 20
  have z1 := h.tab.frozen 1
  have z20 := h.tab.frozen 20
  have HW := hid (window_any g A n cap w c1 (by omega))
  obtain ⟨sm, hsm⟩ : ∃ b, decide ((16384 - (n : Int)) < 1460) = b := ⟨_, rfl⟩
  obtain ⟨ac, hac⟩ : ∃ b, c.acks = b := ⟨_, rfl⟩
  have Hsm := hid hsm
  have Hac := hid hac
  rw [hac] at c20
  clear h hn hac hr
  go_enter Try.func19, Try.ntmps19
  go_wp2_with (go_at_call 45; refine HW.out.mono ?_; rintro e w' ⟨rfl, rfl⟩)
  all_goals
    go_ret
    refine recv_done H.out _ ?_
    rw [Hn.out, Hac.out, Hsm.out]
    simp_all
end
end Go.Proofs.Ytahlcjkcdgahkaa
