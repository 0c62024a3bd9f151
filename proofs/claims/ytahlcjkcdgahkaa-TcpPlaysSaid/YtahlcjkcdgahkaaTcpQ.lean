/- The chapter's example. -/
import Derived.Test.YtahlcjkcdgahkaaTcpO
import Derived.Test.YtahlcjkcdgahkaaTcpP
import Derived.Test.YtahlcjkcdgahkaaTcpK
namespace Go.Proofs.Ytahlcjkcdgahkaa
open Go Go.RowKit
attribute [local go_sem ↓] Go.wp_at_zero Go.wp_at_succ
set_option maxRecDepth 100000

/-- the cells of the segment number i -/
theorem OwnSgs.at {w : World} {base : Nat} {v : Value} {qs : List (TSeg × Value)} (h : OwnSgs w base v qs) (hq : 0 < qs.length) :
    ∃ b cap, v = .slice (some ⟨b, 0, none⟩) qs.length cap ∧ base ≤ b ∧ b < w.heap.size ∧ ∀ i (hi : i < qs.length) j, j < 8 → w.cell? ⟨b, 8 * i + j, none⟩ = (qs[i].1.cells qs[i].2)[j]? := by
  rcases h.row.2 with ⟨rfl, h0⟩ | ⟨g, cap, cur, rfl, hb, hg, h1, h2, h3, h4⟩
  · omega
  · refine ⟨g, cap, rfl, hb, (Array.getElem?_eq_some_iff.1 hg).1, fun i hi j hj => ?_⟩
    rw [← sgRow_at qs i j hi hj]
    have hx : (sgRow qs)[8 * i + j]? = some ((sgRow qs)[8 * i + j]'(by rw [sgRow_len]; omega)) := List.getElem?_eq_getElem _
    rw [hx]
    have := h.row.cells (g := g) rfl (8 * i + j) _ hx
    rw [add_off, Nat.zero_add] at this
    exact this
theorem conv_litN (w : World) (cs : Array Value) (k : Nat) (hk : cs.size = k) : (convert 28 28 (.slice (some ⟨w.heap.size, 0, none⟩) k k)).run Try.prog (w.alloc (.cells cs 5)) = .ok (.slice (some ⟨w.heap.size, 0, none⟩) k k) (w.alloc (.cells cs 5 (k, k + 1))) := by
  have hsh : (w.alloc (.cells cs 5)).shape? w.heap.size = some (5, k) := by
    have : (w.alloc (.cells cs 5)).heap[w.heap.size]? = some (.cells cs 5) := by
      show (w.heap.push _)[w.heap.size]? = _
      simp
    unfold World.shape?
    rw [this, ← hk]
  have hfr : (w.alloc (.cells cs 5)).freeze ⟨w.heap.size, k, none⟩ 1 = w.alloc (.cells cs 5 (k, k + 1)) := by
    have hm : ∀ (a : Array Obj) (x : Obj) (g : Obj → Obj), (a.push x).modify a.size g = a.push (g x) := by
      intro a x g
      apply Array.ext
      · simp
      · intro i h1 h2
        simp only [Array.getElem_modify, Array.getElem_push]
        by_cases h : a.size = i
        · subst h; simp
        · have hi : i < a.size := by simp at h1; omega
          simp [h, hi]
    unfold World.freeze
    rw [if_neg (by decide)]
    show ({ w.alloc (.cells cs 5) with heap := (w.heap.push _).modify w.heap.size _ } : World) = _
    rw [hm]
    rfl
  simp [convert, run_underlying Try.underlying28, run_underlying Try.underlying5, markStringish, hsh, hfr]
theorem kn1 : (tOut (tNew (⟨9, 2049, 100, 0, 2, 5000, 0, []⟩ : TSeg) 7)).1 = [⟨2049, 9, 7, 101, 18, 16384, 1460, []⟩] := by kernel_rfl
theorem kn2 : (tTake (tTake (tTake (tOut (tNew (⟨9, 2049, 100, 0, 2, 5000, 0, []⟩ : TSeg) 7)).2 (⟨0, 0, 101, 8, 16, 5000, 0, []⟩ : TSeg)) (⟨0, 0, 103, 8, 16, 5000, 0, [97, 98]⟩ : TSeg)) (⟨0, 0, 101, 8, 16, 5000, 0, [120, 121]⟩ : TSeg)).state = 2 ∧ (tTake (tTake (tTake (tOut (tNew (⟨9, 2049, 100, 0, 2, 5000, 0, []⟩ : TSeg) 7)).2 (⟨0, 0, 101, 8, 16, 5000, 0, []⟩ : TSeg)) (⟨0, 0, 103, 8, 16, 5000, 0, [97, 98]⟩ : TSeg)) (⟨0, 0, 101, 8, 16, 5000, 0, [120, 121]⟩ : TSeg)).inn.ready = [120, 121, 97, 98] := by
  constructor <;> kernel_rfl
/-- a connection that is known well -/
structure Conn (w0 w : World) (g : Nat) (c : TConn) (m : Nat) (F : Nat → Prop) : Prop where
  inv : ConnInv w w0.heap.size g c m F
  i : InOk c.inn
  o : OutOk c
  bel : Below w0.heap.size w0 w
theorem Conn.keep {w0 w w' : World} {g : Nat} {c : TConn} {m : Nat} {F : Nat → Prop} (h : Conn w0 w g c m F) (hb : Below w.heap.size w w') : Conn w0 w' g c m F := ⟨h.inv.keep hb, h.i, h.o, h.bel.trans (hb.mono h.bel.size)⟩
theorem Conn.frameB {w0 w w' : World} {g : Nat} {c c' : TConn} {m m' : Nat} {F F' : Nat → Prop} (h : Conn w0 w g c m F) (hi : ConnInv w' w0.heap.size g c' m' F') (hf : Frame F w w') (h1 : InOk c'.inn) (h2 : OutOk c') : Conn w0 w' g c' m' F' :=
  ⟨hi, h1, h2, h.bel.trans (hf.below (fun k hk => (h.inv.lt k hk).1) h.bel.size)⟩
/-- New makes one -/
theorem new_conn (s : TSeg) (A : Option Addr) (n cap : Nat) (first : Nat) (w : World) (hb : tBegins s.flags) (hsq : s.seq < 4294967296) (hf : first < 4294967296) (hw : 0 ≤ s.window ∧ s.window ≤ 65535) :
    Calls Try.prog 22 #[s.val (.slice A n cap), .int .u32 (first : Int)] w fun e w' => ∃ g F, e = .returned (.tuple #[.pointer (some ⟨g, 0, none⟩), .int .i64 0]) ∧ Conn w w' g (tNew s first) 0 F := by
  refine (new_any s A n cap first w hb hsq).mono ?_
  rintro e w' ⟨g, F, rfl, hi, hbw⟩
  have := tNew_ok s first hf hw
  exact ⟨g, F, rfl, hi, this.2, this.1, hbw⟩
/-- Out -/
theorem out_conn {w0 w : World} {g : Nat} {c : TConn} {m : Nat} {F : Nat → Prop} (h : Conn w0 w g c m F) (l : List TSeg) (hl : (tOut c).1 = l) :
    Calls Try.prog 17 #[.pointer (some ⟨g, 0, none⟩)] w fun e w' => ∃ v', e = .returned v' ∧ OwnSgL w' w.heap.size v' l ∧ Conn w0 w' g (tOut c).2 m F := by
  refine (out_any w0.heap.size g c m F w h.inv h.i h.o).mono ?_
  rintro e w' ⟨v', rfl, hown, hi, hf⟩
  have := tOut_ok h.o
  exact ⟨v', rfl, by rw [← hl]; exact hown, h.frameB hi hf (by rw [this.2.1]; exact h.i) this.1⟩
/-- Take; the segment's bytes lie elsewhere -/
theorem take_conn {w0 w : World} {g : Nat} {c : TConn} {m : Nat} {F : Nat → Prop} (h : Conn w0 w g c m F) (s : TSeg) (A : Option Addr) (n cap : Nat) (hs : s.seq < 4294967296) (ha : s.ack < 4294967296) (hw : 0 ≤ s.window ∧ s.window ≤ 65535) (hd : Bs w (.slice A n cap) s.data) (hn : n ≤ 100000) (hm : m ≤ 1000000000) (hf : n = 0 ∨ ∀ k, (Value.slice A n cap).ownBlock = some k → ¬ F k) :
    Calls Try.prog 16 #[.pointer (some ⟨g, 0, none⟩), s.val (.slice A n cap)] w fun e w' => (∃ u, e = .returned u) ∧ ∃ F', Conn w0 w' g (tTake c s) (m + s.data.length) F' ∧ Frame F w w' ∧ ∀ k, F' k → F k ∨ w.heap.size ≤ k := by
  refine (take_any w0.heap.size g c m F s A n cap w h.inv hs ha h.i h.o hd hn hm hf).mono ?_
  rintro e w' ⟨hu, F', hi, hfr, hnew⟩
  have := tTake_ok h.o h.i s hw ha
  exact ⟨hu, F', h.frameB hi hfr this.2.1 this.1, hfr, hnew⟩
theorem recv_conn {w0 w : World} {g : Nat} {c : TConn} {m : Nat} {F : Nat → Prop} (h : Conn w0 w g c m F) :
    Calls Try.prog 19 #[.pointer (some ⟨g, 0, none⟩)] w fun e w' => ∃ v' F', e = .returned v' ∧ OwnBs w' w0.heap.size 5 v' c.inn.ready ∧ Conn w0 w' g (tRecv c) m F' ∧ Frame F w w' ∧ w'.heap.size = w.heap.size ∧ (∀ k, F' k → F k) ∧ ∀ k, v'.ownBlock = some k → ¬ F' k := by
  refine (recv_any w0.heap.size g c m F w h.inv h.i.len).mono ?_
  rintro e w' ⟨v', F', rfl, hown, hi, hfr, hz, hsub, hne⟩
  have := tRecv_ok h.o h.i
  exact ⟨v', F', rfl, hown, h.frameB hi hfr this.2 this.1, hfr, hz, hsub, hne⟩
theorem state_conn {w0 w : World} {g : Nat} {c : TConn} {m : Nat} {F : Nat → Prop} (h : Conn w0 w g c m F) (st : Int) (hst : c.state = st) :
    Calls Try.prog 18 #[.pointer (some ⟨g, 0, none⟩)] w fun e w' => e = .returned (.int .i64 st) ∧ w' = w := by
  subst hst
  exact state_any w0.heap.size g c m F w h.inv
/-- bytes that lie in a new block are none of the connection's -/
theorem Conn.far {w0 w : World} {g : Nat} {c : TConn} {m : Nat} {F : Nat → Prop} (h : Conn w0 w g c m F) {A : Option Addr} {n cap b off : Nat} (hA : A = some ⟨b, off, none⟩) (hb : w.heap.size ≤ b ∨ b < w0.heap.size) : ∀ k, (Value.slice A n cap).ownBlock = some k → ¬ F k := by
  subst hA
  intro k hk hF
  simp [Value.ownBlock] at hk
  subst hk
  have := h.inv.lt _ hF
  omega
/-- bytes that stood before the connection was made are none of its own -/
theorem Conn.farB {w0 w wb : World} {g : Nat} {c : TConn} {m : Nat} {F : Nat → Prop} (h : Conn w0 w g c m F) {A : Option Addr} {n cap : Nat} {bs : List UInt8} (hb : Bs wb (.slice A n cap) bs) (hz : wb.heap.size ≤ w0.heap.size) : n = 0 ∨ ∀ k, (Value.slice A n cap).ownBlock = some k → ¬ F k := by
  obtain ⟨hl, _, _, h4⟩ := hb.open
  rcases h4 with h4 | ⟨b, off, rfl, hc⟩
  · exact .inl h4
  · by_cases hn : n = 0
    · exact .inl hn
    · right
      have := World.block_lt_of_cell? wb _ (hc 0 (by omega))
      exact h.far rfl (.inr (by simp at this; omega))
set_option maxHeartbeats 4000000 in
theorem known_any (w : World) : Calls Try.prog 13 #[] w fun e w' => e = .returned (.bool true) ∧ Below w.heap.size w w' := by
  have N0 := new_conn (⟨9, 2049, 100, 0, 2, 5000, 0, []⟩ : TSeg) none 0 0 7 w rfl (by decide) (by decide) (by decide)
  have N1 : Calls Try.prog 22 #[.agg #[.int .i64 9, .int .i64 2049, .int .u32 100, .int .u32 0, .int .i64 2, .int .i64 5000, .int .i64 0, .slice none 0 0], .int .u32 7] w _ := N0
  have HN := hid N1
  clear N0 N1
  go_enter Try.func13, Try.ntmps13
  go_upto_region 5 with (first
    | (go_at_call 22; refine HN.out.mono ?_; rintro e w1 ⟨g, F, rfl, hc⟩; have H1 := hid hc; clear hc)
    | (go_at_call 17; refine (out_conn H1.out _ kn1).mono ?_; rintro e w2 ⟨v2, rfl, ⟨qs, ho, hl⟩, hc⟩; have Ho := hid ho; have Hl := hid hl; have H2 := hid hc; clear ho hl hc))
  obtain ⟨sg, hsg⟩ : ∃ q, qs = [q] := by
    have h1 := congrArg List.length Hl.out
    simp at h1
    exact List.length_eq_one_iff.1 h1
  subst hsg
  obtain ⟨b, cap, rfl, hb1, hb2, hcell⟩ := Ho.out.at (by simp)
  have hl0 : sg.1 = ⟨2049, 9, 7, 101, 18, 16384, 1460, []⟩ := by have := Hl.out; simpa using this
  have hc0 : ∀ j, j < 8 → w2.cell? ⟨b, j, none⟩ = (sg.1.cells sg.2)[j]? := fun j hj => by have := hcell 0 (by simp) j hj; simpa using this
  rw [hl0] at hc0
  have p0 : w2.cell? ⟨b, 0, none⟩ = some (.int .i64 2049) := hc0 0 (by decide)
  have p2 : w2.cell? ⟨b, 2, none⟩ = some (.int .u32 7) := hc0 2 (by decide)
  have p3 : w2.cell? ⟨b, 3, none⟩ = some (.int .u32 101) := hc0 3 (by decide)
  have p4 : w2.cell? ⟨b, 4, none⟩ = some (.int .i64 18) := hc0 4 (by decide)
  have p6 : w2.cell? ⟨b, 6, none⟩ = some (.int .i64 1460) := hc0 6 (by decide)
  clear hcell hc0 hl0 hb1 hb2 HN
  go_upto_region 7 with fail
  have T1 : Calls Try.prog 16 #[.pointer (some ⟨g, 0, none⟩), .agg #[.int .i64 0, .int .i64 0, .int .u32 101, .int .u32 8, .int .i64 16, .int .i64 5000, .int .i64 0, .slice none 0 0]] w2 _ := take_conn H2.out (⟨0, 0, 101, 8, 16, 5000, 0, []⟩ : TSeg) none 0 0 (by decide) (by decide) (by decide) (Bs.nil _) (by decide) (by decide) (.inl rfl)
  have HT1 := hid T1
  clear T1 p0 p2 p3 p4 p6
  go_upto_region 8 with (go_at_call 16; refine HT1.out.mono ?_; rintro e w3 ⟨⟨u, rfl⟩, F3, hc, _, _⟩; have H3 := hid hc; clear hc)
  have hcv := fun (w : World) => conv_litN w #[.int .u8 97, .int .u8 98] 2 rfl
  have H3a := H3.out.keep (below_alloc w3 (.cells #[.int .u8 97, .int .u8 98] 5 (2, 3)))
  have T2 : Calls Try.prog 16 #[.pointer (some ⟨g, 0, none⟩), .agg #[.int .i64 0, .int .i64 0, .int .u32 103, .int .u32 8, .int .i64 16, .int .i64 5000, .int .i64 0, .slice (some ⟨w3.heap.size, 0, none⟩) 2 2]] (w3.alloc (.cells #[.int .u8 97, .int .u8 98] 5 (2, 3))) _ := take_conn H3a (⟨0, 0, 103, 8, 16, 5000, 0, [97, 98]⟩ : TSeg) (some ⟨w3.heap.size, 0, none⟩) 2 2 (by decide) (by decide) (by decide) (bs_litm #[.int .u8 97, .int .u8 98] [97, 98] 2 _ rfl rfl (by decide) rfl) (by decide) (by decide) (.inr fun k hk hF => by simp [Value.ownBlock] at hk; subst hk; exact Nat.lt_irrefl _ (H3.out.inv.lt _ hF).2)
  have HT2 := hid T2
  clear T2 H3a
  go_upto_region 9 with (go_at_call 16; refine HT2.out.mono ?_; rintro e w4 ⟨⟨u, rfl⟩, F4, hc, _, _⟩; have H4 := hid hc; clear hc)
  clear hcv
  have hcv := fun (w : World) => conv_litN w #[.int .u8 120, .int .u8 121] 2 rfl
  have H4a := H4.out.keep (below_alloc w4 (.cells #[.int .u8 120, .int .u8 121] 5 (2, 3)))
  have T3 : Calls Try.prog 16 #[.pointer (some ⟨g, 0, none⟩), .agg #[.int .i64 0, .int .i64 0, .int .u32 101, .int .u32 8, .int .i64 16, .int .i64 5000, .int .i64 0, .slice (some ⟨w4.heap.size, 0, none⟩) 2 2]] (w4.alloc (.cells #[.int .u8 120, .int .u8 121] 5 (2, 3))) _ := take_conn H4a (⟨0, 0, 101, 8, 16, 5000, 0, [120, 121]⟩ : TSeg) (some ⟨w4.heap.size, 0, none⟩) 2 2 (by decide) (by decide) (by decide) (bs_litm #[.int .u8 120, .int .u8 121] [120, 121] 2 _ rfl rfl (by decide) rfl) (by decide) (by decide) (.inr fun k hk hF => by simp [Value.ownBlock] at hk; subst hk; exact Nat.lt_irrefl _ (H4.out.inv.lt _ hF).2)
  have HT3 := hid T3
  clear T3 H4a
  go_upto_region 10 with (go_at_call 16; refine HT3.out.mono ?_; rintro e w5 ⟨⟨u, rfl⟩, F5, hc, _, _⟩; have H5 := hid hc; clear hc)
  clear hcv
  have HS := hid (state_conn H5.out 2 kn2.1)
  have HR := hid (recv_conn H5.out)
  go_wp2_with (first
    | (go_at_call 18; refine HS.out.mono ?_; rintro e w' ⟨rfl, rfl⟩)
    | (go_at_call 19; refine HR.out.mono ?_; rintro e w6 ⟨v6, F6, rfl, ho, hc, _⟩; have H6 := hid hc; rw [kn2.2] at ho; have s6 := run_str Try.underlying28 Try.underlying5 Try.underlying9 ho.bs; clear ho hc))
  go_ret
  exact ⟨by rw [mkStr_toList]; rfl, H6.out.bel⟩
end Go.Proofs.Ytahlcjkcdgahkaa
