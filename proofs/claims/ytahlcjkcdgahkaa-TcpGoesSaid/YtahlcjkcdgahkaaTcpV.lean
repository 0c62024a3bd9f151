/- A connection that is open. -/
import Derived.Test.YtahlcjkcdgahkaaTcpQ
import Derived.Test.YtahlcjkcdgahkaaTcpT
import Derived.Test.YtahlcjkcdgahkaaTcpU
namespace Go.Proofs.Ytahlcjkcdgahkaa
open Go Go.RowKit
attribute [local go_sem ↓] Go.wp_at_zero Go.wp_at_succ
set_option maxRecDepth 100000

theorem tLess_self (a : Nat) : tLess a a = false := by
  unfold tLess
  simp only [decide_eq_false_iff_not]
  omega
/-- a connection just opened -/
def tOpen (seq first : Nat) (window : Int) : TConn :=
  { inn := ⟨(seq + 1) % 4294967296, [], fun _ => none, 0, false, false⟩
    out := ⟨(first + 1) % 4294967296, (first + 1) % 4294967296, (first + 1) % 4294967296, [], window, 1000, 0, 0, false, false⟩
    src := 2049, dst := 7, state := 2, begin_ := false, acks := false, again := false, gave := false, off := false }
def sSyn (seq : Nat) (window : Int) : TSeg := ⟨7, 2049, seq, 0, 2, window, 1000, []⟩
def sAck (seq first : Nat) (window : Int) : TSeg := ⟨7, 2049, (seq + 1) % 4294967296, (first + 1) % 4294967296, 16, window, 0, []⟩
def tSyned (seq first : Nat) (window : Int) : TConn := { tNew (sSyn seq window) first with begin_ := false, again := false, acks := false }
theorem open_out (seq first : Nat) (window : Int) : tOut (tNew (sSyn seq window) first) = ([⟨2049, 7, first, (seq + 1) % 4294967296, 18, 16384, 1460, []⟩], tSyned seq first window) := by
  unfold tOut tOut2 tOutB tOutA tOutC tOutD tOutE tNew sSyn tQuiet
  simp [tSegment, tSyned, tNew, sSyn]
theorem noFlow (i : TIn) (s : TSeg) (hd : s.data = []) (hf : tBit s.flags 1 = false) (he : i.early i.r = none) (ht : i.told = false) : tFlow (tNote i s) = i := by
  have hn : tNote i s = i := by
    unfold tNote
    rw [if_neg (by rw [hf]; simp), hd]
    rfl
  rw [hn]
  unfold tFlow tFlowN
  split
  · rfl
  · rw [if_neg (by rw [ht]; simp), he]
theorem open_take (seq first : Nat) (window : Int) : tTake (tSyned seq first window) (sAck seq first window) = tOpen seq first window := by
  have h1 : tBit (sAck seq first window).flags 4 = false := by show tBit 16 4 = false; decide
  have h2 : tBit (sAck seq first window).flags 2 = false := by show tBit 16 2 = false; decide
  have h3 : tBit (sAck seq first window).flags 16 = true := by show tBit 16 16 = true; decide
  have h4 : tBit (sAck seq first window).flags 1 = false := by show tBit 16 1 = false; decide
  unfold tTake
  rw [if_neg (by show ¬ (1 : Int) = 5; decide), if_neg (by rw [h1]; simp), if_neg (by rw [h2]; simp), if_neg (by rw [h3]; simp), if_neg (by show ¬ tLess ((first + 1) % 4294967296) ((first + 1) % 4294967296) = true; rw [tLess_self]; simp), if_neg (by intro h; exact h.2 rfl)]
  unfold tTakeA
  rw [if_pos (by show tLess first ((first + 1) % 4294967296) = true; exact tLess_next first), if_neg (by intro h; have := h.1; revert this; show ¬ (if (1 : Int) = 1 then (2 : Int) else 1) = 4; decide)]
  have ha : tAnswered (tSyned seq first window).out (sAck seq first window).ack = ⟨(first + 1) % 4294967296, (first + 1) % 4294967296, (first + 1) % 4294967296, [], window, 1000, 0, 0, false, false⟩ := by
    have e : tTaken (tSyned seq first window).out (sAck seq first window).ack = 0 := by
      unfold tTaken
      rw [if_neg]
      show ¬ tLess ((first + 1) % 4294967296) ((first + 1) % 4294967296) = true
      rw [tLess_self]; simp
    unfold tAnswered
    rw [e]
    show (⟨_, _, ((first + 1) % 4294967296 + 0) % 4294967296, _, _, _, _, _, _, _⟩ : TOut) = _
    rw [Nat.add_zero, Nat.mod_mod]
    rfl
  unfold tTakeB
  have hfl := noFlow (tSyned seq first window).inn (sAck seq first window) rfl h4 rfl rfl
  simp only [ha]
  rw [hfl, if_neg (by rw [show (sAck seq first window).ack = (first + 1) % 4294967296 from rfl, tLess_self]; simp)]
  rw [h4]
  rfl
theorem open_ok {w0 w : World} {g : Nat} {c : TConn} {m : Nat} {F : Nat → Prop} (h : Conn w0 w g c m F) (c' : TConn) (e : c = c') : Conn w0 w g c' m F := e ▸ h
set_option maxHeartbeats 2000000 in
theorem opened_any (seq first : Nat) (window : Int) (hs : seq < 4294967296) (hf : first < 4294967296) (hw : 0 ≤ window ∧ window ≤ 65535) (w : World) :
    Calls Try.prog 14 #[.int .u32 (seq : Int), .int .u32 (first : Int), .int .i64 window] w fun e w' => ∃ g F, e = .returned (.pointer (some ⟨g, 0, none⟩)) ∧ Conn w w' g (tOpen seq first window) 0 F := by
  have N0 := new_conn (sSyn seq window) none 0 0 first w (by show bits .andNot .i64 2 8 = 2; rfl) hs hf hw
  have N1 : Calls Try.prog 22 #[.agg #[.int .i64 7, .int .i64 2049, .int .u32 (seq : Int), .int .u32 0, .int .i64 2, .int .i64 window, .int .i64 1000, .slice none 0 0], .int .u32 (first : Int)] w _ := N0
  have HN := hid N1
  obtain ⟨s1, hs1⟩ : ∃ x, (seq + 1) % 4294967296 = x := ⟨_, rfl⟩
  obtain ⟨f1, hf1⟩ : ∃ x, (first + 1) % 4294967296 = x := ⟨_, rfl⟩
  have hs1I : ((seq : Int) + 1) % 4294967296 = (s1 : Int) := by omega
  have hf1I : ((first : Int) + 1) % 4294967296 = (f1 : Int) := by omega
  have Hs1 := hid hs1
  have Hf1 := hid hf1
  have H16 := hid (And.intro (show s1 < 4294967296 by omega) (show f1 < 4294967296 by omega))
  clear N0 N1 hs1 hf1
  go_enter Try.func14, Try.ntmps14
  go_upto_region 5 with (first
    | (go_at_call 22; refine HN.out.mono ?_; rintro e w1 ⟨g, F, rfl, hc⟩; have H1 := hid hc; clear hc)
    | (go_at_call 17; refine (out_conn H1.out _ (congrArg Prod.fst (open_out seq first window))).mono ?_; rintro e w2 ⟨v2, rfl, ⟨qs, ho, hl⟩, hc⟩; have Ho := hid ho; have Hl := hid hl; rw [congrArg Prod.snd (open_out seq first window)] at hc; have H2 := hid hc; clear ho hl hc))
  obtain ⟨sg, hsg⟩ : ∃ q, qs = [q] := by
    have h1 := congrArg List.length Hl.out
    simp at h1
    exact List.length_eq_one_iff.1 h1
  subst hsg
  obtain ⟨b, cap, rfl, hb1, hb2, hcell⟩ := Ho.out.at (by simp)
  have T0 := take_conn H2.out (sAck seq first window) none 0 0 (by rw [show (sAck seq first window).seq = s1 from Hs1.out]; exact H16.out.1) (by rw [show (sAck seq first window).ack = f1 from Hf1.out]; exact H16.out.2) hw (Bs.nil _) (by decide) (by decide) (.inl rfl)
  rw [show (sAck seq first window).val (.slice none 0 0) = .agg #[.int .i64 7, .int .i64 2049, .int .u32 (s1 : Int), .int .u32 (f1 : Int), .int .i64 16, .int .i64 window, .int .i64 0, .slice none 0 0] from by rw [← Hs1.out, ← Hf1.out]; rfl] at T0
  have HT := hid T0
  clear T0 hcell hb1 hb2 HN
  go_upto_region 6 with (go_at_call 16; refine HT.out.mono ?_; rintro e w3 ⟨⟨u, rfl⟩, F3, hc, _, _⟩; rw [open_take] at hc; have H3 := hid hc; clear hc)
  have HS := hid (state_conn H3.out 2 rfl)
  go_wp2_with (go_at_call 18; refine HS.out.mono ?_; rintro e w' ⟨rfl, rfl⟩)
  go_ret
  exact ⟨g, F3, rfl, H3.out⟩
end Go.Proofs.Ytahlcjkcdgahkaa
