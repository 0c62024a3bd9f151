/- The document's segments in a row; its New; what it sends again. -/
import Derived.Test.YtahlcjkcdgahkaaRcH
import Derived.Test.YtahlcjkcdgahkaaTcpO
namespace Go.Proofs.Ytahlcjkcdgahkaa
open Go Go.RowKit
attribute [local go_sem ↓] Go.wp_at_zero Go.wp_at_succ
set_option maxRecDepth 100000
set_option linter.unusedSimpArgs false

/-- a slice of segments, owned, with their bytes -/
structure OwnRgs (w : World) (base : Nat) (v : Value) (qs : List (TSeg × Value)) : Prop where
  datas : ∀ q ∈ qs, OwnBs w base 5 q.2 q.1.data
  row : w.ownsRow base 51 8 v qs.length (sgRow qs)
theorem OwnRgs.below {w w' : World} {base : Nat} {v : Value} {qs : List (TSeg × Value)} (h : OwnRgs w base v qs) (hb : Below w.heap.size w w') : OwnRgs w' base v qs :=
  ⟨fun q hq => (h.datas q hq).below hb, own_below h.row hb⟩
theorem OwnRgs.mono {w : World} {base base' : Nat} {v : Value} {qs : List (TSeg × Value)} (h : OwnRgs w base v qs) (hb : base' ≤ base) : OwnRgs w base' v qs := ⟨fun q hq => (h.datas q hq).mono hb, own_mono h.row hb⟩
theorem OwnRgs.nil (w : World) (base : Nat) : OwnRgs w base (.slice none 0 0) [] := ⟨fun _ h => (by cases h), World.ownsRow_nil _ _ _ _⟩
/-- what is stored into blocks before base leaves it -/
theorem OwnRgs.frame {w w' : World} {base : Nat} {v : Value} {qs : List (TSeg × Value)} {F : Nat → Prop} (h : OwnRgs w base v qs) (hf : Frame F w w') (hF : ∀ k, F k → k < base) : OwnRgs w' base v qs :=
  ⟨fun q hq => hf.own (h.datas q hq) (fun g hg hF' => by have := (World.ownsRow.lt (h.datas q hq) g hg).1; have := hF g hF'; omega), hf.own h.row (fun g hg hF' => by have := (World.ownsRow.lt h.row g hg).1; have := hF g hF'; omega)⟩
theorem rseginfo2 : (Try.prog.info? 51).map (fun i => (i.zero, i.size, i.bytes)) = some (some sgzero, 8, 72) := by kernel_rfl
theorem rgok : ElemOk Try.prog 90 51 sgzero 8 72 := by
  obtain ⟨i, hi, h1, h2, h3⟩ := info_parts rseginfo2
  exact ⟨Try.underlying90, ⟨i, hi, h1, h2, h3⟩, rfl, by decide, by decide⟩
/-- a slice of just these segments, owned -/
def OwnRgL (w : World) (base : Nat) (v : Value) (l : List TSeg) : Prop := ∃ qs, OwnRgs w base v qs ∧ qs.map Prod.fst = l
theorem OwnRgL.nil (w : World) (base : Nat) : OwnRgL w base (.slice none 0 0) [] := ⟨[], OwnRgs.nil _ _, rfl⟩
theorem OwnRgL.below {w w' : World} {base : Nat} {v : Value} {l : List TSeg} (h : OwnRgL w base v l) (hb : Below w.heap.size w w') : OwnRgL w' base v l := by
  obtain ⟨qs, h1, h2⟩ := h
  exact ⟨qs, h1.below hb, h2⟩
theorem OwnRgL.mono {w : World} {base base' : Nat} {v : Value} {l : List TSeg} (h : OwnRgL w base v l) (hb : base' ≤ base) : OwnRgL w base' v l := by
  obtain ⟨qs, h1, h2⟩ := h
  exact ⟨qs, h1.mono hb, h2⟩
theorem OwnRgL.frame {w w' : World} {base : Nat} {v : Value} {l : List TSeg} {F : Nat → Prop} (h : OwnRgL w base v l) (hf : Frame F w w') (hF : ∀ k, F k → k < base) : OwnRgL w' base v l := by
  obtain ⟨qs, h1, h2⟩ := h
  exact ⟨qs, h1.frame hf hF, h2⟩
/-- rows of segments are appended -/
theorem OwnRgs.app {w w' : World} {base : Nat} {v v' : Value} {qs rs : List (TSeg × Value)} (h : OwnRgs w base v qs) (hd : ∀ q ∈ rs, OwnBs w base 5 q.2 q.1.data) (hrow : w'.ownsRow base 51 8 v' (qs.length + rs.length) (sgRow qs ++ sgRow rs)) (hg : w.grownBy w' v.ownBlock) : OwnRgs w' base v' (qs ++ rs) := by
  have keep : ∀ (u : Value) (bs : List UInt8), OwnBs w base 5 u bs → OwnBs w' base 5 u bs := by
    intro u bs ho
    rcases h.row.2 with ⟨rfl, _⟩ | ⟨g, cap, cur, rfl, _, hh, _⟩
    · exact World.ownsRow.kept ho hg (by
        rcases hv : u.ownBlock with _ | g1
        · exact .inl rfl
        · exact .inr (by simp [Value.ownBlock]))
    · exact ownBs_store ho (g := g) (t := 51) (xs := cur.toList) (by unfold Blk; simpa using hh) (by decide) hg
  refine ⟨fun q hq => ?_, ?_⟩
  · rcases List.mem_append.1 hq with hq | hq
    · exact keep _ _ (h.datas q hq)
    · exact keep _ _ (hd q hq)
  · rw [sgRow_append, List.length_append]
    exact hrow
/-- a row of one segment, made just now -/
theorem OwnRgs.one {w : World} {base : Nat} {s : TSeg} {v : Value} (h : OwnBs w base 5 v s.data) (hb : base ≤ w.heap.size) : OwnRgs (w.alloc (.cells (s.cells v).toArray 51)) base (.slice (some ⟨w.heap.size, 0, none⟩) 1 1) [(s, v)] := by
  refine ⟨fun q hq => ?_, ?_⟩
  · obtain rfl : q = _ := by simpa using hq
    exact own_below h (below_alloc _ _)
  · rw [sgRow_one]
    exact own_litS 8 (s.cells v).toArray 1 _ rfl rfl hb (by simp [maxLen])

/-! ### New -/

theorem rnew_done (w : World) (s : TSeg) (v : Value) (first : Nat) (mm : Int) (hmm : tMss s.mss = mm) :
    RConn ((w.alloc (.cells (s.cells v).toArray 51)).alloc (.cells #[.int .i64 s.src, .int .i64 s.dst, .int .i64 1, .int .u32 (((s.seq : Int) + 1) % 4294967296), .int .u32 (first : Int), .int .u32 (((first : Int) + 1) % 4294967296), .slice none 0 0, .slice none 0 0, .int .u32 0, .bool false, .slice none 0 0, .int .i64 s.window, .int .i64 mm, .bool false, .bool false, .int .i64 0, .int .i64 0, .bool true, .bool false, .bool false, .bool false] 58)) w.heap.size (w.heap.size + 1) (tNew s first) 0 (fun k => k = w.heap.size + 1) := by
  subst hmm
  have e1 : (((s.seq : Int) + 1) % 4294967296) = (((s.seq + 1) % 4294967296 : Nat) : Int) := by omega
  have e2 : (((first : Int) + 1) % 4294967296) = (((first + 1) % 4294967296 : Nat) : Int) := by omega
  rw [e1, e2]
  have hb := Blk.new (w.alloc (.cells (s.cells v).toArray 51)) 58 #[.int .i64 s.src, .int .i64 s.dst, .int .i64 1, .int .u32 (((s.seq + 1) % 4294967296 : Nat) : Int), .int .u32 (first : Int), .int .u32 (((first + 1) % 4294967296 : Nat) : Int), .slice none 0 0, .slice none 0 0, .int .u32 0, .bool false, .slice none 0 0, .int .i64 s.window, .int .i64 (tMss s.mss), .bool false, .bool false, .int .i64 0, .int .i64 0, .bool true, .bool false, .bool false, .bool false]
  rw [World.size_alloc] at hb
  refine ⟨true, false, false, [], .slice none 0 0, .slice none 0 0, .slice none 0 0, ⟨hb, RowAtS.nil _ _ _ _, RowAtS.nil _ _ _ _, RowAtS.nil _ _ _ _, fun k hk => by simp [Value.ownBlock] at hk, rfl, fun k hk => by simp [Value.ownBlock] at hk, fun k hk => by simp [Value.ownBlock] at hk, fun k hk => by simp [Value.ownBlock] at hk, fun k hk => ?_⟩, ⟨fun _ k => rfl, fun _ => rfl, fun _ => rfl, rfl, Nat.le_refl _, fun x hx => by cases hx⟩⟩
  subst hk
  rw [World.size_alloc, World.size_alloc]
  omega
def RNewPost (s : TSeg) (first : Nat) (w : World) (e : Ending) (w' : World) : Prop := ∃ g, e = .returned (.tuple #[.pointer (some ⟨g, 0, none⟩), .int .i64 0]) ∧ RConn w' w.heap.size g (tNew s first) 0 (fun k => k = g) ∧ Below w.heap.size w w'
set_option maxHeartbeats 2000000 in
theorem rnew_any (s : TSeg) (A : Option Addr) (n cap : Nat) (first : Nat) (w : World) (hb : tBegins s.flags) :
    Calls Try.prog 24 #[s.val (.slice A n cap), .int .u32 (first : Int)] w (RNewPost s first w) := by
  obtain ⟨s0, d0, sq, ak, fl, wi, ms, body⟩ := s
  have hfl : bits .andNot .i64 fl 8 = 2 := hb
  have hflb : (bits .andNot .i64 fl 8 != 2) = false := by rw [hfl]; rfl
  dsimp only [TSeg.val, TSeg.cells]
  by_cases h0 : ms = 0
  · subst h0
    go_enter Try.func24, Try.ntmps24
    go_wp2_with fail
    go_ret2
    exact ⟨w.heap.size + 1, rfl, rnew_done w ⟨s0, d0, sq, ak, fl, wi, 0, body⟩ (.slice A n cap) first _ rfl, below_alloc' (below_alloc w _) _⟩
  have h0b : (ms == 0) = false := by simpa using h0
  have H0 := hid h0
  go_enter Try.func24, Try.ntmps24
  go_wp2_with fail
  all_goals
    go_ret2
    refine ⟨w.heap.size + 1, rfl, rnew_done w ⟨s0, d0, sq, ak, fl, wi, ms, body⟩ (.slice A n cap) first _ ?_, below_alloc' (below_alloc w _) _⟩
    show tMss ms = _
    unfold tMss
    rw [if_neg H0.out]
    omega
theorem rnew_bad (s : TSeg) (A : Option Addr) (n cap : Nat) (first : Nat) (w : World) (hb : ¬ tBegins s.flags) :
    Calls Try.prog 24 #[s.val (.slice A n cap), .int .u32 (first : Int)] w fun e w' => e = .returned (.tuple #[.pointer none, .int .i64 3]) ∧ Below w.heap.size w w' := by
  obtain ⟨s0, d0, sq, ak, fl, wi, ms, body⟩ := s
  have hflb : (bits .andNot .i64 fl 8 != 2) = true := by simpa [tBegins] using hb
  dsimp only [TSeg.val, TSeg.cells]
  go_enter Try.func24, Try.ntmps24
  go_wp2_with fail
  go_ret2
  exact ⟨rfl, below_alloc w _⟩
theorem new_bad (s : TSeg) (A : Option Addr) (n cap : Nat) (first : Nat) (w : World) (hb : ¬ tBegins s.flags) :
    Calls Try.prog 22 #[s.val (.slice A n cap), .int .u32 (first : Int)] w fun e w' => e = .returned (.tuple #[.pointer none, .int .i64 3]) ∧ Below w.heap.size w w' := by
  obtain ⟨s0, d0, sq, ak, fl, wi, ms, body⟩ := s
  have hflb : (bits .andNot .i64 fl 8 != 2) = true := by simpa [tBegins] using hb
  dsimp only [TSeg.val, TSeg.cells]
  go_enter Try.func22, Try.ntmps22
  go_wp2_with fail
  go_ret2
  exact ⟨rfl, below_alloc w _⟩

end Go.Proofs.Ytahlcjkcdgahkaa
