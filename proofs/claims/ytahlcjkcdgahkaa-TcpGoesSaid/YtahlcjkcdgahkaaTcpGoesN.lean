/- What a turn's end makes of the connection. Plain. -/
import Derived.Test.YtahlcjkcdgahkaaTcpGoesM
namespace Go.Proofs.Ytahlcjkcdgahkaa
open Go Go.RowKit

theorem flow_done (i : TIn) (s : TSeg) (hi : i.done = true) (hd : s.data = []) (hf : tBit s.flags 1 = false) : tFlow (tNote i s) = i := by
  have hn : tNote i s = i := by
    unfold tNote
    rw [if_neg (by rw [hf]; simp), hd]
    rfl
  rw [hn]
  unfold tFlow tFlowN
  rw [if_pos hi]
def ackSeg (ack : Nat) (w : Nat) : TSeg := ⟨0, 0, 52, ack, 16, (w : Int), 0, []⟩
section
variable {i : TIn} {f1 w : Nat} {D : List UInt8} {G sent : Nat} {fin : Bool} {t : Nat}
theorem goes_head (ack : Nat) (hn : tLess (goC i f1 w D G sent fin false t false).out.n ack = false) : tTake (goC i f1 w D G sent fin false t false) (ackSeg ack w) = tTakeA (goC i f1 w D G sent fin false t false) (ackSeg ack w) := by
  have hst : (goC i f1 w D G sent fin false t false).state = if fin then 4 else 3 := rfl
  have hst2 : (goC i f1 w D G sent fin false t false).state ≠ 5 ∧ (goC i f1 w D G sent fin false t false).state ≠ 1 := by rw [hst]; cases fin <;> decide
  unfold tTake
  rw [if_neg hst2.1, if_neg (show ¬ tBit (ackSeg ack w).flags 4 = true from (show ¬ tBit 16 4 = true by decide)), if_neg (show ¬ tBit (ackSeg ack w).flags 2 = true from (show ¬ tBit 16 2 = true by decide)), if_neg (show ¬ tBit (ackSeg ack w).flags 16 = false from (show ¬ tBit 16 16 = false by decide)), if_neg (show ¬ tLess (goC i f1 w D G sent fin false t false).out.n (ackSeg ack w).ack = true by rw [show (ackSeg ack w).ack = ack from rfl, hn]; simp), if_neg (fun q => hst2.2 q.1)]
  have e : ({ goC i f1 w D G sent fin false t false with state := if (goC i f1 w D G sent fin false t false).state = 1 then 2 else (goC i f1 w D G sent fin false t false).state } : TConn) = goC i f1 w D G sent fin false t false := by
    rw [if_neg hst2.2]
  rw [e]
theorem goes_nless (hs : sent ≤ 100000) (G' : Nat) (h1 : G ≤ G') (h2 : G' ≤ G + sent + (if fin then 1 else 0)) : tLess (goC i f1 w D G sent fin false t false).out.n ((f1 + G') % 4294967296) = false := by
  unfold tLess goC
  simp only [decide_eq_false_iff_not]
  split at h2 <;> rename_i hf <;> simp only [hf, if_true, Bool.false_eq_true, if_false] <;> omega
theorem goes_uless (G' : Nat) (h1 : G ≤ G') (h2 : G' ≤ G + 100001) : tLess (goC i f1 w D G sent fin false t false).out.u ((f1 + G') % 4294967296) = decide (G < G') := by
  unfold tLess goC
  simp only
  congr 1
  simp only [eq_iff_iff]
  omega
theorem goes_ans (hD : D.length ≤ 6000) (G' : Nat) (h1 : G ≤ G') (h2 : G' ≤ D.length + 1) (hg : G ≤ D.length) :
    tAnswered (goC i f1 w D G sent fin false t false).out ((f1 + G') % 4294967296) = { (goC i f1 w D G sent fin false t false).out with bytes := D.drop (min G' D.length), base := (f1 + min G' D.length) % 4294967296, u := (f1 + G') % 4294967296, clock := 0, tries := 0 } := by
  have hk : tTaken (goC i f1 w D G sent fin false t false).out ((f1 + G') % 4294967296) = min G' D.length - G := by
    unfold tTaken
    have hb : tLess (goC i f1 w D G sent fin false t false).out.base ((f1 + G') % 4294967296) = decide (G < G') := by
      unfold tLess goC
      simp only
      congr 1
      simp only [eq_iff_iff]
      omega
    rw [hb]
    by_cases hlt : G < G'
    · rw [if_pos (by simpa using hlt)]
      show min (((f1 + G') % 4294967296 + 4294967296 - (f1 + G) % 4294967296) % 4294967296) (D.drop G).length = _
      rw [List.length_drop]
      omega
    · rw [if_neg (by simpa using hlt)]
      omega
  unfold tAnswered
  rw [hk]
  have e1 : (goC i f1 w D G sent fin false t false).out.bytes.drop (min G' D.length - G) = D.drop (min G' D.length) := by
    show (D.drop G).drop _ = _
    rw [List.drop_drop]
    congr 1
    omega
  have e2 : ((goC i f1 w D G sent fin false t false).out.base + (min G' D.length - G)) % 4294967296 = (f1 + min G' D.length) % 4294967296 := by
    show ((f1 + G) % 4294967296 + (min G' D.length - G)) % 4294967296 = _
    omega
  rw [e1, e2]
/-- an answer to G' bytes -/
theorem goes_take (hi : i.done = true) (hs : sent ≤ 100000) (hD : D.length ≤ 6000) (hg : G ≤ D.length) (G' : Nat) (h1 : G ≤ G') (h2 : G' ≤ G + sent) (h3 : G' ≤ D.length) (ht : G' = G → t = 0) :
    tTake (goC i f1 w D G sent fin false t false) (ackSeg ((f1 + G') % 4294967296) w) = goC i f1 w D G' (sent - (G' - G)) fin false 0 false := by
  rw [goes_head _ (goes_nless hs G' h1 (by split <;> omega))]
  have hB : ∀ c : TConn, c.inn = i → c.acks = false → (c.state = 3 ∨ c.state = 4) → c.out.w = w → tTakeB c (ackSeg ((f1 + G') % 4294967296) w) = c := by
    intro c hci hca hcs hcw
    have hfl := flow_done c.inn (ackSeg ((f1 + G') % 4294967296) w) (by rw [hci]; exact hi) rfl (show tBit 16 1 = false by decide)
    unfold tTakeB
    rw [hfl]
    have e1 : (if c.inn.done = true ∧ c.state = 2 then 3 else c.state) = c.state := by rw [if_neg (fun q => by have := q.2; omega)]
    have e2 : (c.acks || decide (0 < (ackSeg ((f1 + G') % 4294967296) w).data.length) || tBit (ackSeg ((f1 + G') % 4294967296) w).flags 1) = c.acks := by
      rw [show decide (0 < (ackSeg ((f1 + G') % 4294967296) w).data.length) = false from rfl, show tBit (ackSeg ((f1 + G') % 4294967296) w).flags 1 = false from (show tBit 16 1 = false by decide)]
      simp
    have e3 : (if tLess (ackSeg ((f1 + G') % 4294967296) w).ack c.out.u = true then c.out else { c.out with w := (ackSeg ((f1 + G') % 4294967296) w).window }) = c.out := by
      split
      · rfl
      · show { c.out with w := (w : Int) } = c.out
        rw [← hcw]
    rw [e1, e2, e3]
  unfold tTakeA
  rw [show (ackSeg ((f1 + G') % 4294967296) w).ack = (f1 + G') % 4294967296 from rfl, goes_uless G' h1 (by omega)]
  have hn : (f1 + G + sent + (if fin then 1 else 0)) % 4294967296 = (f1 + G' + (sent - (G' - G)) + (if fin then 1 else 0)) % 4294967296 := by congr 2; omega
  by_cases hlt : G < G'
  · rw [if_pos (by simpa using hlt), goes_ans hD G' h1 (by omega) hg]
    have hm : min G' D.length = G' := by omega
    rw [hm]
    have hno : ¬ ((goC i f1 w D G sent fin false t false).state = 4 ∧ (f1 + G') % 4294967296 = (goC i f1 w D G sent fin false t false).out.n) := by
      intro q
      obtain ⟨q1, q2⟩ := q
      unfold goC at q1 q2
      cases fin with
      | false => simp at q1
      | true => simp only [if_true] at q2; omega
    rw [if_neg hno, hB _ rfl rfl (by show (if fin then (4 : Int) else 3) = 3 ∨ (if fin then (4 : Int) else 3) = 4; cases fin <;> simp) rfl]
    unfold goC
    simp only
    rw [hn]
    rfl
  · have e : G' = G := by omega
    subst e
    rw [if_neg (by simp), hB _ rfl rfl (by show (if fin then (4 : Int) else 3) = 3 ∨ (if fin then (4 : Int) else 3) = 4; cases fin <;> simp) rfl, ht rfl]
    congr 1
    omega
/-- the last answer -/
theorem goes_close (hs : sent ≤ 100000) (hD : D.length ≤ 6000) (hg : G ≤ D.length) (h2 : sent = D.length - G) :
    (tTake (goC i f1 w D G sent true false t false) (ackSeg ((f1 + (D.length + 1)) % 4294967296) w)).state = 5 ∧ (tTake (goC i f1 w D G sent true false t false) (ackSeg ((f1 + (D.length + 1)) % 4294967296) w)).out.bytes = [] := by
  rw [goes_head _ (goes_nless hs (D.length + 1) (by omega) (by simp; omega))]
  unfold tTakeA
  rw [show (ackSeg ((f1 + (D.length + 1)) % 4294967296) w).ack = (f1 + (D.length + 1)) % 4294967296 from rfl, goes_uless (D.length + 1) (by omega) (by omega), if_pos (by simp; omega), if_pos ⟨rfl, by unfold goC; simp only [if_true]; omega⟩, goes_ans hD (D.length + 1) (by omega) (by omega) hg]
  refine ⟨rfl, ?_⟩
  show D.drop (min (D.length + 1) D.length) = []
  rw [show min (D.length + 1) D.length = D.length by omega]
  exact List.drop_length
/-- nothing was heard -/
theorem goes_tick (hs : sent ≤ 100000) (hun : 0 < sent ∨ fin = true) (ht : t ≤ 3) : tTick (goC i f1 w D G sent fin false t false) 6400 = goC i f1 w D G sent fin true (t + 1) false := by
  have h4 : t = 0 ∨ t = 1 ∨ t = 2 ∨ t = 3 := by omega
  unfold tTick
  have hne : ¬ ((goC i f1 w D G sent fin false t false).state = 5 ∨ ((goC i f1 w D G sent fin false t false).out.u = (goC i f1 w D G sent fin false t false).out.n ∧ ((goC i f1 w D G sent fin false t false).out.left = 0 ∨ (goC i f1 w D G sent fin false t false).out.w ≠ 0))) := by
    intro q
    rcases q with q | ⟨q, _⟩
    · unfold goC at q; cases fin <;> simp at q
    · unfold goC at q
      simp only at q
      rcases hun with h | h
      · split at q <;> omega
      · subst h; simp only [if_true] at q; omega
  rw [if_neg hne]
  have hcl : ¬ ((goC i f1 w D G sent fin false t false).out.clock + min (max 6400 0) 1073741824 < 200 * 2 ^ (goC i f1 w D G sent fin false t false).out.tries.toNat) := by
    show ¬ ((0 : Int) + min (max 6400 0) 1073741824 < 200 * 2 ^ ((t : Int)).toNat)
    rcases h4 with rfl | rfl | rfl | rfl <;> decide
  have h6 : ¬ ((goC i f1 w D G sent fin false t false).out.tries + 1 = 6) := by show ¬ ((t : Int) + 1 = 6); omega
  have h1 : ¬ ((goC i f1 w D G sent fin false t false).state = 1) := by unfold goC; cases fin <;> simp
  rw [if_neg hcl, if_neg h6, if_neg h1]
  rfl
end
/-- the connection as the law begins with it -/
def goInn : TIn := { (⟨51, [], fun _ => none, 0, false, false⟩ : TIn) with told := true, fin := 51, done := true, r := 52, early := fun _ => none }
theorem goes_begin (first w : Nat) (D : List UInt8) (hD : D.length ≤ 6000) :
    (tSend (tOpen 50 first w) D).2 = 0 ∧ tEnd (tTake (tSend (tOpen 50 first w) D).1 ⟨0, 0, 51, (first + 1) % 4294967296, 17, (w : Int), 0, []⟩) = goC goInn (first + 1) w D 0 0 false false 0 true := by
  have hS : tSend (tOpen 50 first w) D = ({ tOpen 50 first w with out := { (tOpen 50 first w).out with bytes := [] ++ D } }, 0) := by
    unfold tSend
    rw [if_neg (by simp [tOpen]), if_neg (by simp [tOpen]; omega)]
    rfl
  rw [hS]
  refine ⟨rfl, ?_⟩
  simp only [List.nil_append]
  have hfl : tFlow (tNote (tOpen 50 first w).inn ⟨0, 0, 51, (first + 1) % 4294967296, 17, (w : Int), 0, []⟩) = goInn := by
    have hn : tNote (tOpen 50 first w).inn ⟨0, 0, 51, (first + 1) % 4294967296, 17, (w : Int), 0, []⟩ = { (tOpen 50 first w).inn with told := true, fin := 51 } := by
      unfold tNote
      rw [if_pos ⟨show tBit 17 1 = true by decide, rfl, show mSub ((51 + 0) % 4294967296) 51 ≤ 16384 by decide⟩]
      rfl
    rw [hn]
    unfold tFlow
    rw [show (({ (tOpen 50 first w).inn with told := true, fin := 51 } : TIn).q + 1) = 16385 from rfl]
    unfold tFlowN
    rw [if_neg (by simp [tOpen]), if_pos ⟨rfl, rfl⟩]
    rfl
  obtain ⟨sg, hsg⟩ : ∃ s : TSeg, (⟨0, 0, 51, (first + 1) % 4294967296, 17, (w : Int), 0, []⟩ : TSeg) = s := ⟨_, rfl⟩
  obtain ⟨c, hc⟩ : ∃ c : TConn, ({ tOpen 50 first w with out := { (tOpen 50 first w).out with bytes := D } } : TConn) = c := ⟨_, rfl⟩
  have s4 : ¬ tBit sg.flags 4 = true := by rw [← hsg]; show ¬ tBit 17 4 = true; decide
  have s2 : ¬ tBit sg.flags 2 = true := by rw [← hsg]; show ¬ tBit 17 2 = true; decide
  have s16 : ¬ tBit sg.flags 16 = false := by rw [← hsg]; show ¬ tBit 17 16 = false; decide
  have s1 : tBit sg.flags 1 = true := by rw [← hsg]; show tBit 17 1 = true; decide
  have sa : sg.ack = (first + 1) % 4294967296 := by rw [← hsg]
  have cn : c.out.n = (first + 1) % 4294967296 := by rw [← hc]; rfl
  have cu : c.out.u = (first + 1) % 4294967296 := by rw [← hc]; rfl
  have cs : c.state = 2 := by rw [← hc]; rfl
  have ci : c.inn = (tOpen 50 first w).inn := by rw [← hc]
  have hT : tTake c sg = tTakeB c sg := by
    unfold tTake
    rw [if_neg (by rw [cs]; decide), if_neg s4, if_neg s2, if_neg s16, if_neg (by rw [cn, sa, tLess_self]; simp), if_neg (fun q => by have := q.1; rw [cs] at this; cases this)]
    have e : ({ c with state := if c.state = 1 then 2 else c.state } : TConn) = c := by rw [if_neg (by rw [cs]; decide)]
    rw [e]
    unfold tTakeA
    rw [if_neg (by rw [cu, sa, tLess_self]; simp)]
  rw [hsg, hc, hT]
  unfold tTakeB
  rw [ci, ← hsg, hfl, cs, cu, ← hc]
  unfold tEnd goC goInn tOpen
  have h17 : tBit 17 1 = true := by decide
  simp [tLess_self, h17]
theorem shape_sent {Dl w G sent sent' : Nat} {fin again fin' : Bool} {t : Nat} {acks : Bool} {qs : List GSeg} (h : GoI Dl w G sent fin again t acks) (hs : Shape Dl w G sent fin again qs sent' fin') : sent' ≤ Dl - G := by
  have h1 := h.s
  cases hs with
  | front => omega
  | last => omega
  | behind => omega
  | none => omega
  | resent => omega
theorem goes_t0 {Dl w G sent sent' : Nat} {fin again fin' : Bool} {t : Nat} {acks : Bool} {qs : List GSeg} (h : GoI Dl w G sent fin again t acks) (hs : Shape Dl w G sent fin again qs sent' fin') (bs : List Bool) (hb : bs.length = qs.length) (g2 : Nat) (hr : rvs Dl qs bs (G, false, false) = (g2, true, false)) (he : g2 = G) : t = 0 := by
  subst he
  cases ha : again with
  | false => exact h.na ha
  | true =>
    exfalso
    cases hs with
    | front qs h1 h2 => rw [ha] at h2; cases h2
    | behind qs h1 h2 => rw [ha] at h2; cases h2
    | none h1 h2 => rw [ha] at h2; cases h2
    | last hG h0 =>
      cases bs with
      | nil => cases hb
      | cons b0 bs =>
        obtain rfl : bs = [] := by cases bs with | nil => rfl | cons _ _ => simp at hb
        cases b0 with
        | true =>
          have : rvs Dl [⟨Dl, 0, 17⟩] [true] (g2, false, false) = (g2, false, false) := by show rv Dl (g2, false, false) ⟨Dl, 0, 17⟩ true = _; unfold rv; rw [if_pos rfl]
          rw [this] at hr; simp at hr
        | false =>
          have : rvs Dl [⟨Dl, 0, 17⟩] [false] (g2, false, false) = (g2, true, true) := by
            show rv Dl (g2, false, false) ⟨Dl, 0, 17⟩ false = _
            unfold rv
            rw [if_neg (by simp)]
            have h17 : tBit 17 1 = true := by decide
            simp [h17, hG]
          rw [this] at hr; simp at hr
    | resent h2 h3 hG =>
      cases bs with
      | nil => cases hb
      | cons b0 bs =>
        obtain rfl : bs = [] := by cases bs with | nil => rfl | cons _ _ => simp at hb
        cases b0 with
        | true =>
          have : rvs Dl [⟨g2, min sent 1000, 16⟩] [true] (g2, false, false) = (g2, false, false) := by show rv Dl (g2, false, false) ⟨g2, min sent 1000, 16⟩ true = _; unfold rv; rw [if_pos rfl]
          rw [this] at hr; simp at hr
        | false =>
          have h1 : (rvs Dl [⟨g2, min sent 1000, 16⟩] [false] (g2, false, false)).1 = g2 + min sent 1000 := by
            show (rv Dl (g2, false, false) ⟨g2, min sent 1000, 16⟩ false).1 = _
            unfold rv
            rw [if_neg (by simp)]
            have h2 : g2 ≤ g2 ∧ g2 + min sent 1000 > g2 := by omega
            simp only [if_pos h2]
          rw [hr] at h1
          simp only at h1
          omega
end Go.Proofs.Ytahlcjkcdgahkaa
