/- Send, End, Unsent, Tick. -/
import Derived.Test.YtahlcjkcdgahkaaNumH
import Derived.Lib.AppendZerosOnto
import Derived.Lib.AppendZeros
import Derived.Deep.LoopGhost
import Derived.Deep.Cut
import Derived.Deep.CutRange
import Derived.Test.YtahlcjkcdgahkaaTcpQ
namespace Go.Proofs.Ytahlcjkcdgahkaa
section
open Go Go.RowKit
set_option maxRecDepth 100000

theorem grow0_any (n : Nat) (w : World) (hn : n ≤ 100000000) :
    Calls Try.prog 63 #[.slice none 0 0, .int .i64 (n : Int)] w fun e w' => ∃ v', e = .returned v' ∧ OwnBs w' w.heap.size 5 v' [] ∧ Below w.heap.size w w' := by
  have h1 : ¬ ((n : Int) < 0) := by omega
  by_cases h0 : n = 0
  · subst h0
    go_enter Try.func63, Try.ntmps63
    go_wp2_with fail
    go_ret
    exact ⟨_, rfl, OwnBs.nil _ _ _, Below.refl _ _⟩
  · have h2 : (n : Int) > 0 := by omega
    obtain ⟨i, hi, hz, hs, hb⟩ := info_parts u8info
    have hr : ∀ ty, (Builtin.append_ #[28, 3] ty #[.slice none 0 0, .int .i64 (n : Int)]).run Try.prog w = .ok (.slice (some ⟨w.heap.size, 0, none⟩) n (grownCap w n 0 5)) (w.drew.alloc (.cells (#[] ++ Builtin.zeroCells (Value.int .u8 0).cells n ++ Builtin.zeroCells (Value.int .u8 0).cells (grownCap w n 0 5 - n)) 5)) := fun ty => by
      have h := Lib.run_append_grow_zeros w 28 3 ty 5 i (.int .u8 0) .i64 .i64 Try.underlying28 Try.underlying3 hi hz none 0 0 [] (by rw [hs]; exact run_firstCells_none w.drew 1 0 0 0) n (by omega) (by omega) (by omega) (by omega) (by rw [hb]; omega)
        (by rw [hb]; have := nextslicecap_wide (need := n) (old := 0) (by omega); simp only [Nat.zero_add]; omega)
      simp only [Nat.zero_add] at h
      exact h
    have hG := grownCap_ge w n 0 5
    have hG2 := grownCap_le_maxLen w n 0 5 (by unfold maxLen; omega)
    obtain ⟨G, hGe⟩ : ∃ G, grownCap w n 0 5 = G := ⟨_, rfl⟩
    rw [hGe] at hr hG hG2
    have hG3 : G ≤ 9223372036854775807 := by unfold maxLen at hG2; omega
    have HG2 := hid hG2
    clear hi hz hs hb hG2 hGe h0
    go_enter Try.func63, Try.ntmps63
    go_wp2_with (at_builtin; refine Lib.wpList_append_run _ rfl _ _ _ _ rfl _ _ rfl rfl _ _ (hr _) ?_)
    go_ret
    refine ⟨_, rfl, ⟨rfl, .inr ⟨w.heap.size, G, _, rfl, Nat.le_refl _, heap_alloc_new w.drew _, by simp, HG2.out, ?_, by simp⟩⟩, (below_drew w).alloc (Nat.le_refl _) _⟩
    simp [size_zeroCells]
    omega
theorem slice_lenC {w : World} {v : Value} {bs : List UInt8} {n : Nat} (h : Bs w v bs) (hn : bs.length = n) : ∃ A c, v = .slice A n c := by
  subst hn
  obtain ⟨_, A, c, rfl, _⟩ := h
  exact ⟨A, c, rfl⟩
theorem flat_snoc {rows : List (List UInt8)} {k : Nat} (hk : k < rows.length) : (rows.take (k + 1)).flatten = (rows.take k).flatten ++ rows[k] := by
  rw [take_snoc rows k hk, List.flatten_append]
  simp
theorem flat_le {rows : List (List UInt8)} (k : Nat) : (rows.take k).flatten.length ≤ rows.flatten.length := by
  have : rows.flatten = (rows.take k).flatten ++ (rows.drop k).flatten := by rw [← List.flatten_append, List.take_append_drop]
  rw [this, List.length_append]
  omega
set_option maxHeartbeats 2000000 in
theorem concat_any (v : Value) (rows : List (List UInt8)) (w : World) (h : Rows8 w v rows) (hn : rows.length ≤ 100) (hl : rows.flatten.length ≤ 10000000) :
    Calls Try.prog 46 #[v] w fun e w' => ∃ v', e = .returned v' ∧ OwnBs w' w.heap.size 5 v' rows.flatten ∧ Below w.heap.size w w' := by
  obtain ⟨vs, hr, hrows⟩ := h
  obtain ⟨A, cap, rfl, k1, k2, k3, hcell⟩ := hr.cells
  obtain ⟨n, hnn⟩ : ∃ n, rows.length = n := ⟨_, rfl⟩
  rw [hnn] at k1 k2 hn ⊢
  obtain ⟨L, hL⟩ : ∃ n, rows.flatten.length = n := ⟨_, rfl⟩
  have Hn := hid hnn
  have HL := hid hL
  have Hk1 := hid k1
  have Hcell := hid hcell
  have Hrows := hid hrows
  rw [hL] at hl
  clear hr hcell hrows hnn hL k1
  go_enter Try.func46, Try.ntmps46
  go_upto_region 3 with fail
  go_loopg [3, 11] n (fun gk s i wr => ∃ k : Nat, k ≤ n ∧ gk = n - k ∧ i = .int .i64 (k : Int) ∧ s = .int .i64 ((rows.take k).flatten.length : Int) ∧ wr = w)
  case atStart => exact ⟨0, by omega, rfl, rfl, rfl, rfl⟩
  case round =>
    obtain ⟨k, hk, rfl, rfl, rfl, hwr⟩ := hrel
    have hwr := hwr.symm
    subst hwr
    by_cases hlt : k < n
    · have t1 : (k : Int) < (n : Int) := by omega
      have hkr : k < rows.length := by rw [Hn.out]; exact hlt
      have hkv : k < vs.length := by rw [Hk1.out]; exact hlt
      obtain ⟨b, off, rfl, hc⟩ := Hcell.out k hkv
      obtain ⟨Ax, cx, hx⟩ := slice_lenC (Hrows.out k vs[k] rows[k] (List.getElem?_eq_getElem hkv) (List.getElem?_eq_getElem hkr)) rfl
      rw [hx] at hc
      obtain ⟨m, hm⟩ : ∃ m, rows[k].length = m := ⟨_, rfl⟩
      rw [hm] at hc
      obtain ⟨a, ha⟩ : ∃ a, (rows.take k).flatten.length = a := ⟨_, rfl⟩
      have ham : (rows.take (k + 1)).flatten.length = a + m := by rw [flat_snoc hkr, List.length_append, ha, hm]
      have hle := flat_le (rows := rows) (k + 1)
      rw [HL.out, ham] at hle
      rw [ha]
      have Ham := hid ham
      have Hlt := hid hlt
      have t2 : ¬ ((a + m : Nat) : Int) < 0 := by omega
      clear hx hm ha ham hkr hkv
      go_wp2_with fail
      go_roundg (n - (k + 1))
      case measure => have := Hlt.out; omega
      case rel => exact ⟨k + 1, Hlt.out, rfl, by go_num, by rw [Ham.out]; go_num, rfl⟩
    · obtain rfl : k = n := by omega
      have t1 : ¬ (k : Int) < (k : Int) := by omega
      have htk : rows.take k = rows := List.take_of_length_le (by rw [Hn.out]; exact Nat.le_refl _)
      rw [htk, HL.out]
      clear htk
      go_upto_region 10 with (go_at_call 63; refine (grow0_any L w (by omega)).mono ?_; rintro e w1 ⟨v1, rfl, ho, hb⟩; have Ho := hid ho; have Hb := hid hb; clear ho hb)
      go_upto_region 11 with fail
      go_loopg [6, 27] k (fun gk s i wx => ∃ j : Nat, j ≤ k ∧ gk = k - j ∧ i = .int .i64 (j : Int) ∧ OwnBs wx w.heap.size 5 s (rows.take j).flatten ∧ Below w.heap.size w wx)
      case atStart => exact ⟨0, by omega, rfl, rfl, Ho.out, Hb.out⟩
      case round =>
        obtain ⟨j, hj, rfl, rfl, ho, hb⟩ := hrel
        have Hox := hid ho
        have Hbx := hid hb
        clear ho hb
        by_cases hlt : j < k
        · have t3 : (j : Int) < (k : Int) := by omega
          have hkr : j < rows.length := by rw [Hn.out]; exact hlt
          have hkv : j < vs.length := by rw [Hk1.out]; exact hlt
          obtain ⟨b, off, rfl, hc⟩ := Hcell.out j hkv
          have hbs := Hrows.out j vs[j] rows[j] (List.getElem?_eq_getElem hkv) (List.getElem?_eq_getElem hkr)
          have hc2 := cell_below Hbx.out hc
          obtain ⟨x, hx⟩ : ∃ x, vs[j] = x := ⟨_, rfl⟩
          rw [hx] at hbs hc2
          have Hbs := hid (hbs.below Hbx.out)
          have Hsn := hid (flat_snoc hkr)
          have hle := flat_le (rows := rows) (j + 1)
          rw [HL.out, Hsn.out, List.length_append] at hle
          have Hle := hid hle
          have Hlt := hid hlt
          clear hc hbs hx hkv hle
          go_wp2_with (at_builtin; refine wpList_app8 _ rfl _ _ 28 rfl w.heap.size 5 u8ok _ _ rfl Hox.out _ rows[j] rfl Hbs.out (by have := Hle.out; omega) Hbx.out.size ?_; intro v3 w3 hown3 hb3 hg3 hat3; have Ho3 := hid hown3; have Hb3 := hid hb3; clear hown3 hb3 hg3 hat3)
          go_roundg (k - (j + 1))
          case measure => have := Hlt.out; omega
          case rel => exact ⟨j + 1, Hlt.out, rfl, by go_num, by rw [Hsn.out]; exact Ho3.out, Hbx.out.trans Hb3.out⟩
        · obtain rfl : j = k := by omega
          have t3 : ¬ (j : Int) < (j : Int) := by omega
          have htk : rows.take j = rows := List.take_of_length_le (by rw [Hn.out]; exact Nat.le_refl _)
          rw [htk] at Hox
          clear htk
          go_wp2_with fail
          go_ret
          exact ⟨_, rfl, Hox.out, Hbx.out⟩
theorem rows_two {w : World} {e : TypeId} {mk : Nat × Nat} {x y : Value} {a b : List UInt8} {H : Nat} (h1 : Bs w x a) (h2 : Bs w y b) (hH : H = w.heap.size) :
    Rows8 (w.alloc (.cells #[x, y] e mk)) (.slice (some ⟨H, 0, none⟩) 2 2) [a, b] :=
  ⟨[x, y], row_litm #[x, y] _ 2 H rfl rfl (by decide) hH, fun i p r g1 g2 => by
    match i with
    | 0 => simp at g1 g2; subst g1; subst g2; exact h1.alloc _
    | 1 => simp at g1 g2; subst g1; subst g2; exact h2.alloc _
    | i + 2 => simp at g1⟩
end
section
open Go Go.RowKit
attribute [local go_sem ↓] Go.wp_at_zero Go.wp_at_succ
set_option maxRecDepth 100000

theorem end_any (base g : Nat) (c : TConn) (m : Nat) (F : Nat → Prop) (w : World) (h : ConnInv w base g c m F) :
    Calls Try.prog 29 #[.pointer (some ⟨g, 0, none⟩)] w fun e w' => (∃ u, e = .returned u) ∧ ConnInv w' base g (tEnd c) m F ∧ Frame F w w' ∧ w'.heap.size = w.heap.size := by
  obtain ⟨vr, gM, vb, f, h⟩ := h
  have H := hid h
  have c14 : w.cell? ⟨g, 14, none⟩ = some (.bool c.out.ended) := h.tab.cell 14
  have z14 := h.tab.frozen 14
  clear h
  go_enter Try.func29, Try.ntmps29
  go_wp2_with fail
  go_end0
  have hg := grown_set w g 14 (.bool true)
  exact ⟨⟨_, rfl⟩, ⟨vr, gM, vb, f, H.out.stored (c' := tEnd c) hg (H.out.tab.set_ 14 (.bool true)) rfl rfl rfl⟩, Frame.one hg H.out.fg, by simp⟩
theorem unsent_any (base g : Nat) (c : TConn) (m : Nat) (F : Nat → Prop) (w : World) (h : ConnInv w base g c m F) :
    Calls Try.prog 27 #[.pointer (some ⟨g, 0, none⟩)] w fun e w' => e = .returned (.int .i64 (c.out.bytes.length : Int)) ∧ w' = w := by
  obtain ⟨vr, gM, vb, f, h⟩ := h
  obtain ⟨n, hn⟩ : ∃ n, c.out.bytes.length = n := ⟨_, rfl⟩
  obtain ⟨A, cap, rfl⟩ : ∃ A c2, vb = .slice A n c2 := by rw [← hn]; obtain ⟨_, A, c2, rfl, _⟩ := h.bytes.rowN; exact ⟨A, c2, rfl⟩
  have c9 : w.cell? ⟨g, 9, none⟩ = some (.slice A n cap) := h.tab.cell 9
  rw [hn]
  clear h hn
  go_enter Try.func27, Try.ntmps27
  go_wp2_with fail
  go_ret
  exact ⟨rfl, rfl⟩
/-- other bytes are to be sent -/
theorem ConnAt.bytesW {w w' : World} {base g : Nat} {c : TConn} {m : Nat} {vr v' : Value} {gM : Nat} {vb : Value} {f : Nat → Option Value} {F : Nat → Prop} {bs' : List UInt8} (h : ConnAt w base g c m vr gM vb f F) (hb : Below w.heap.size w w') (hown : OwnBs w' w.heap.size 5 v' bs') :
    ConnAt (w'.setCell ⟨g, 9, none⟩ v') base g { c with out := { c.out with bytes := bs' } } m vr gM v' f (fun k => F k ∨ v'.ownBlock = some k) := by
  have h1 := h.same hb
  have hbase : base ≤ w.heap.size := by have := h.flt g h.fg; omega
  have hgs := grown_set w' g 9 v'
  have hlt : ∀ k, v'.ownBlock = some k → w.heap.size ≤ k ∧ k < w'.heap.size := fun k hk => World.ownsRow.lt hown k hk
  have hrow : RowAtS w' base 5 1 v' bs'.length (bs'.map u8v) := (RowAtS.of_own hown).mono hbase
  refine ⟨h1.tab.set_ 9 v', ownBs_store h1.ready h1.tab (by decide) hgs, ?_, h1.map.grownCells h1.tab hgs, h.early, .inl h.fg, .inl h.fM, fun k hk => .inl (h.fr k hk), fun k hk => .inr hk, fun k hk => ?_, fun k hk hk2 => ?_⟩
  · exact hrow.kept hgs fun k hk e => by
      injection e with e
      subst e
      exact hrow.ne h1.tab (by decide) hk
  · rcases hk with hk | hk
    · have := h1.flt k hk
      exact ⟨this.1, by simpa using this.2⟩
    · have := hlt k hk
      exact ⟨by omega, by simpa using this.2⟩
  · have := (h.flt k (h.fr k hk)).2
    have := (hlt k hk2).1
    omega
def SendPost (base g : Nat) (c : TConn) (m : Nat) (F : Nat → Prop) (b : List UInt8) (w : World) (e : Ending) (w' : World) : Prop := e = .returned (.int .i64 (tSend c b).2) ∧ ConnTo base g (tSend c b).1 m F w w'
set_option maxHeartbeats 4000000 in
theorem send_any (base g : Nat) (c : TConn) (m : Nat) (F : Nat → Prop) (v : Value) (b : List UInt8) (w : World) (h : ConnInv w base g c m F) (ho : OutOk c) (hb : Bs w v b) :
    Calls Try.prog 21 #[.pointer (some ⟨g, 0, none⟩), v] w (SendPost base g c m F b w) := by
  obtain ⟨vr, gM, vb, f, h⟩ := h
  have H := hid h
  obtain ⟨n, hn⟩ : ∃ n, c.out.bytes.length = n := ⟨_, rfl⟩
  obtain ⟨A, cap, rfl⟩ : ∃ A c2, vb = .slice A n c2 := by rw [← hn]; obtain ⟨_, A, c2, rfl, _⟩ := h.bytes.rowN; exact ⟨A, c2, rfl⟩
  obtain ⟨q, hq⟩ : ∃ n, b.length = n := ⟨_, rfl⟩
  obtain ⟨A2, cap2, rfl⟩ := slice_len hb hq
  have hn65 : n ≤ 65536 := by rw [← hn]; exact ho.len
  obtain ⟨en, hen⟩ : ∃ x, c.out.ended = x := ⟨_, rfl⟩
  obtain ⟨st, hst⟩ : ∃ x, c.state = x := ⟨_, rfl⟩
  have c14 : w.cell? ⟨g, 14, none⟩ = some (.bool en) := by rw [← hen]; exact h.tab.cell 14
  have c18 : w.cell? ⟨g, 18, none⟩ = some (.int .i64 st) := by rw [← hst]; exact h.tab.cell 18
  have c9 : w.cell? ⟨g, 9, none⟩ = some (.slice A n cap) := h.tab.cell 9
  have HB := hid hb
  have Hn := hid hn
  have Hq := hid hq
  have Hen := hid hen
  have Hst := hid hst
  have refused : (en = true ∨ (st ≠ 2 ∧ st ≠ 3)) → tSend c b = (c, 1) := by
    intro hh
    unfold tSend
    rw [if_pos (by rw [hen, hst]; exact hh)]
  have Href := hid refused
  have hsame : ∀ q, ConnTo base g c m F w (w.drewN q) := fun q => ⟨F, ⟨_, _, _, _, h.same (below_drewN (Below.refl _ _) q)⟩, Below.frameF (below_drewN (Below.refl _ _) q) F, fun _ h => .inl h⟩
  have Hsame := hid hsame
  clear h hb hn hq hen hst refused hsame ho
  cases en with
  | true =>
    have Hr := hid (Href.out (.inl rfl))
    go_enter Try.func21, Try.ntmps21
    go_wp2_with fail
    go_ret
    unfold SendPost
    rw [Hr.out]
    exact ⟨rfl, Hsame.out 0⟩
  | false =>
  by_cases hs : st = 2 ∨ st = 3
  case neg =>
    have Hr := hid (Href.out (.inr ⟨by omega, by omega⟩))
    have h2 : (st != 2) = true := by simp; omega
    have h3 : (st != 3) = true := by simp; omega
    clear hs
    go_enter Try.func21, Try.ntmps21
    go_wp2_with fail
    go_ret
    unfold SendPost
    rw [Hr.out]
    exact ⟨rfl, Hsame.out 0⟩
  case pos =>
  have Hs := hid hs
  by_cases hbig : (q : Int) > 65536 - (n : Int)
  · have Hr := hid (show tSend c b = (c, 7) by
      unfold tSend
      rw [if_neg (by rw [Hen.out, Hst.out]; intro h; rcases h with h | h; cases h; omega), if_pos (by rw [Hq.out, Hn.out]; exact hbig)])
    rcases hs with rfl | rfl
    all_goals
      go_enter Try.func21, Try.ntmps21
      go_wp2_with fail
      go_ret
      unfold SendPost
      rw [Hr.out]
      exact ⟨rfl, Hsame.out 0⟩
  · have Hr := hid (show tSend c b = ({ c with out := { c.out with bytes := c.out.bytes ++ b } }, 0) by
      unfold tSend
      rw [if_neg (by rw [Hen.out, Hst.out]; intro h; rcases h with h | h; cases h; omega), if_neg (by rw [Hq.out, Hn.out]; exact hbig)])
    have hcc := concat_any (.slice (some ⟨w.heap.size, 0, none⟩) 2 2) [c.out.bytes, b] (w.alloc (.cells #[.slice A n cap, .slice A2 q cap2] 28)) (rows_two (by have := H.out.bytes.rowN; unfold Bs; rw [Hn.out] at this ⊢; exact this) HB.out rfl) (by simp) (by simp; rw [Hn.out, Hq.out]; omega)
    have HC := hid hcc
    have Hn7 := hid (show (c.out.bytes ++ b).length = n + q by rw [List.length_append, Hn.out, Hq.out])
    clear hcc
    rcases hs with rfl | rfl
    all_goals
      go_enter Try.func21, Try.ntmps21
      go_wp2_with (go_at_call 46; refine HC.out.mono ?_; rintro e w2 ⟨v2, rfl, ho, hb⟩; rw [show [c.out.bytes, b].flatten = c.out.bytes ++ b by simp] at ho; obtain ⟨A3, cap3, rfl⟩ := slice_len ho.bs Hn7.out; have Ho2 := hid (ho.mono (base' := w.heap.size) (by simp)); have Hb2 := hid ((below_alloc w _).trans (hb.mono (by simp))); have d9 : w2.cell? ⟨g, 9, none⟩ = some (.slice A n cap) := (H.out.same Hb2.out).tab.cell 9; have z9 := (H.out.same Hb2.out).tab.frozen 9; clear ho hb)
      go_ret
      unfold SendPost
      rw [Hr.out]
      have h2 := H.out.bytesW Hb2.out Ho2.out
      refine ⟨rfl, _, ⟨_, _, _, _, h2⟩, (Below.frameF Hb2.out F).trans (Frame.one (grown_set w2 g 9 _) H.out.fg) (fun _ _ h => h), fun k hk => ?_⟩
      rcases hk with hk | hk
      · exact .inl hk
      · exact .inr (World.ownsRow.lt Ho2.out k hk).1
end
end Go.Proofs.Ytahlcjkcdgahkaa
