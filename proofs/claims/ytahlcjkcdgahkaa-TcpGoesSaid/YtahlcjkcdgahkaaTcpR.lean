/- Send, End, Unsent, Tick. -/
import Derived.Test.YtahlcjkcdgahkaaTcpQ
import Derived.Test.YtahlcjkcdgahkaaConcat
namespace Go.Proofs.Ytahlcjkcdgahkaa
open Go Go.RowKit
attribute [local go_sem ↓] Go.wp_at_zero Go.wp_at_succ
set_option maxRecDepth 100000

theorem end_any (base g : Nat) (c : TConn) (m : Nat) (F : Nat → Prop) (w : World) (h : ConnInv w base g c m F) :
    Calls Try.prog 29 #[.pointer (some ⟨g, 0, none⟩)] w fun e w' => (∃ u, e = .returned u) ∧ ConnInv w' base g (tEnd c) m F ∧ Frame F w w' ∧ w'.heap.size = w.heap.size := by
  obtain ⟨vr, gM, vb, f, h⟩ := h
  have H := hid h
  have c14 : w.cell? ⟨g, 14, none⟩ = some (.bool c.out.ended) := h.tab.cell 14
  have z14 := h.tab.frozen 14
  clear h
  go_enter Try.func29, Try.ntmps29
  go_wp2_with fail
  go_end0
  have hg := grown_set w g 14 (.bool true)
  exact ⟨⟨_, rfl⟩, ⟨vr, gM, vb, f, H.out.stored (c' := tEnd c) hg (H.out.tab.set_ 14 (.bool true)) rfl rfl rfl⟩, Frame.one hg H.out.fg, by simp⟩
theorem unsent_any (base g : Nat) (c : TConn) (m : Nat) (F : Nat → Prop) (w : World) (h : ConnInv w base g c m F) :
    Calls Try.prog 27 #[.pointer (some ⟨g, 0, none⟩)] w fun e w' => e = .returned (.int .i64 (c.out.bytes.length : Int)) ∧ w' = w := by
  obtain ⟨vr, gM, vb, f, h⟩ := h
  obtain ⟨n, hn⟩ : ∃ n, c.out.bytes.length = n := ⟨_, rfl⟩
  obtain ⟨A, cap, rfl⟩ : ∃ A c2, vb = .slice A n c2 := by rw [← hn]; obtain ⟨_, A, c2, rfl, _⟩ := h.bytes.rowN; exact ⟨A, c2, rfl⟩
  have c9 : w.cell? ⟨g, 9, none⟩ = some (.slice A n cap) := h.tab.cell 9
  rw [hn]
  clear h hn
  go_enter Try.func27, Try.ntmps27
  go_wp2_with fail
  go_ret
  exact ⟨rfl, rfl⟩
/-- other bytes are to be sent -/
theorem ConnAt.bytesW {w w' : World} {base g : Nat} {c : TConn} {m : Nat} {vr v' : Value} {gM : Nat} {vb : Value} {f : Nat → Option Value} {F : Nat → Prop} {bs' : List UInt8} (h : ConnAt w base g c m vr gM vb f F) (hb : Below w.heap.size w w') (hown : OwnBs w' w.heap.size 5 v' bs') :
    ConnAt (w'.setCell ⟨g, 9, none⟩ v') base g { c with out := { c.out with bytes := bs' } } m vr gM v' f (fun k => F k ∨ v'.ownBlock = some k) := by
  have h1 := h.same hb
  have hbase : base ≤ w.heap.size := by have := h.flt g h.fg; omega
  have hgs := grown_set w' g 9 v'
  have hlt : ∀ k, v'.ownBlock = some k → w.heap.size ≤ k ∧ k < w'.heap.size := fun k hk => World.ownsRow.lt hown k hk
  have hrow : RowAtS w' base 5 1 v' bs'.length (bs'.map u8v) := (RowAtS.of_own hown).mono hbase
  refine ⟨h1.tab.set_ 9 v', ownBs_store h1.ready h1.tab (by decide) hgs, ?_, h1.map.grownCells h1.tab hgs, h.early, .inl h.fg, .inl h.fM, fun k hk => .inl (h.fr k hk), fun k hk => .inr hk, fun k hk => ?_, fun k hk hk2 => ?_⟩
  · exact hrow.kept hgs fun k hk e => by
      injection e with e
      subst e
      exact hrow.ne h1.tab (by decide) hk
  · rcases hk with hk | hk
    · have := h1.flt k hk
      exact ⟨this.1, by simpa using this.2⟩
    · have := hlt k hk
      exact ⟨by omega, by simpa using this.2⟩
  · have := (h.flt k (h.fr k hk)).2
    have := (hlt k hk2).1
    omega
def SendPost (base g : Nat) (c : TConn) (m : Nat) (F : Nat → Prop) (b : List UInt8) (w : World) (e : Ending) (w' : World) : Prop := e = .returned (.int .i64 (tSend c b).2) ∧ ConnTo base g (tSend c b).1 m F w w'
set_option maxHeartbeats 4000000 in
theorem send_any (base g : Nat) (c : TConn) (m : Nat) (F : Nat → Prop) (v : Value) (b : List UInt8) (w : World) (h : ConnInv w base g c m F) (ho : OutOk c) (hb : Bs w v b) :
    Calls Try.prog 21 #[.pointer (some ⟨g, 0, none⟩), v] w (SendPost base g c m F b w) := by
  obtain ⟨vr, gM, vb, f, h⟩ := h
  have H := hid h
  obtain ⟨n, hn⟩ : ∃ n, c.out.bytes.length = n := ⟨_, rfl⟩
  obtain ⟨A, cap, rfl⟩ : ∃ A c2, vb = .slice A n c2 := by rw [← hn]; obtain ⟨_, A, c2, rfl, _⟩ := h.bytes.rowN; exact ⟨A, c2, rfl⟩
  obtain ⟨q, hq⟩ : ∃ n, b.length = n := ⟨_, rfl⟩
  obtain ⟨A2, cap2, rfl⟩ := slice_len hb hq
  have hn65 : n ≤ 65536 := by rw [← hn]; exact ho.len
  obtain ⟨en, hen⟩ : ∃ x, c.out.ended = x := ⟨_, rfl⟩
  obtain ⟨st, hst⟩ : ∃ x, c.state = x := ⟨_, rfl⟩
  have c14 : w.cell? ⟨g, 14, none⟩ = some (.bool en) := by rw [← hen]; exact h.tab.cell 14
  have c18 : w.cell? ⟨g, 18, none⟩ = some (.int .i64 st) := by rw [← hst]; exact h.tab.cell 18
  have c9 : w.cell? ⟨g, 9, none⟩ = some (.slice A n cap) := h.tab.cell 9
  have HB := hid hb
  have Hn := hid hn
  have Hq := hid hq
  have Hen := hid hen
  have Hst := hid hst
  have refused : (en = true ∨ (st ≠ 2 ∧ st ≠ 3)) → tSend c b = (c, 1) := by
    intro hh
    unfold tSend
    rw [if_pos (by rw [hen, hst]; exact hh)]
  have Href := hid refused
  have hsame : ∀ q, ConnTo base g c m F w (w.drewN q) := fun q => ⟨F, ⟨_, _, _, _, h.same (below_drewN (Below.refl _ _) q)⟩, Below.frameF (below_drewN (Below.refl _ _) q) F, fun _ h => .inl h⟩
  have Hsame := hid hsame
  clear h hb hn hq hen hst refused hsame ho
  cases en with
  | true =>
    have Hr := hid (Href.out (.inl rfl))
    go_enter Try.func21, Try.ntmps21
    go_wp2_with fail
    go_ret
    unfold SendPost
    rw [Hr.out]
    exact ⟨rfl, Hsame.out 0⟩
  | false =>
  by_cases hs : st = 2 ∨ st = 3
  case neg =>
    have Hr := hid (Href.out (.inr ⟨by omega, by omega⟩))
    have h2 : (st != 2) = true := by simp; omega
    have h3 : (st != 3) = true := by simp; omega
    clear hs
    go_enter Try.func21, Try.ntmps21
    go_wp2_with fail
    go_ret
    unfold SendPost
    rw [Hr.out]
    exact ⟨rfl, Hsame.out 0⟩
  case pos =>
  have Hs := hid hs
  by_cases hbig : (q : Int) > 65536 - (n : Int)
  · have Hr := hid (show tSend c b = (c, 7) by
      unfold tSend
      rw [if_neg (by rw [Hen.out, Hst.out]; intro h; rcases h with h | h; cases h; omega), if_pos (by rw [Hq.out, Hn.out]; exact hbig)])
    rcases hs with rfl | rfl
    all_goals
      go_enter Try.func21, Try.ntmps21
      go_wp2_with fail
      go_ret
      unfold SendPost
      rw [Hr.out]
      exact ⟨rfl, Hsame.out 0⟩
  · have Hr := hid (show tSend c b = ({ c with out := { c.out with bytes := c.out.bytes ++ b } }, 0) by
      unfold tSend
      rw [if_neg (by rw [Hen.out, Hst.out]; intro h; rcases h with h | h; cases h; omega), if_neg (by rw [Hq.out, Hn.out]; exact hbig)])
    have hcc := concat_any (.slice (some ⟨w.heap.size, 0, none⟩) 2 2) [c.out.bytes, b] (w.alloc (.cells #[.slice A n cap, .slice A2 q cap2] 28)) (rows_two (by have := H.out.bytes.rowN; unfold Bs; rw [Hn.out] at this ⊢; exact this) HB.out rfl) (by simp) (by simp; rw [Hn.out, Hq.out]; omega)
    have HC := hid hcc
    have Hn7 := hid (show (c.out.bytes ++ b).length = n + q by rw [List.length_append, Hn.out, Hq.out])
    clear hcc
    rcases hs with rfl | rfl
    all_goals
      go_enter Try.func21, Try.ntmps21
      go_wp2_with (go_at_call 46; refine HC.out.mono ?_; rintro e w2 ⟨v2, rfl, ho, hb⟩; rw [show [c.out.bytes, b].flatten = c.out.bytes ++ b by simp] at ho; obtain ⟨A3, cap3, rfl⟩ := slice_len ho.bs Hn7.out; have Ho2 := hid (ho.mono (base' := w.heap.size) (by simp)); have Hb2 := hid ((below_alloc w _).trans (hb.mono (by simp))); have d9 : w2.cell? ⟨g, 9, none⟩ = some (.slice A n cap) := (H.out.same Hb2.out).tab.cell 9; have z9 := (H.out.same Hb2.out).tab.frozen 9; clear ho hb)
      go_ret
      unfold SendPost
      rw [Hr.out]
      have h2 := H.out.bytesW Hb2.out Ho2.out
      refine ⟨rfl, _, ⟨_, _, _, _, h2⟩, (Below.frameF Hb2.out F).trans (Frame.one (grown_set w2 g 9 _) H.out.fg) (fun _ _ h => h), fun k hk => ?_⟩
      rcases hk with hk | hk
      · exact .inl hk
      · exact .inr (World.ownsRow.lt Ho2.out k hk).1
end Go.Proofs.Ytahlcjkcdgahkaa
