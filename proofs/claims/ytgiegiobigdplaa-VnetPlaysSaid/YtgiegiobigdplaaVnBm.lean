/- The document's card sends. -/
import Derived.Test.YtgiegiobigdplaaVnBl
import Derived.Test.YtgiegiobigdplaaVnBg
namespace Go.Proofs.Ytgiegiobigdplaa
open Go Go.RowKit
attribute [local go_sem ↓] Go.wp_at_zero Go.wp_at_succ
set_option maxRecDepth 100000
set_option linter.unusedSimpArgs false
set_option linter.unusedVariables false

/-! ### plain -/
theorem first_at {head : Nat} : ∀ {hs : List Nat}, head ∈ hs → ∃ i : Nat, hs[i]? = some head ∧ ∀ j : Nat, j < i → hs[j]? ≠ some head
  | [], h => by cases h
  | a :: hs, h => by
    by_cases e : a = head
    · exact ⟨0, by rw [e]; rfl, fun j hj => by omega⟩
    · rcases List.mem_cons.1 h with h | h
      · exact absurd h.symm e
      · obtain ⟨i, h1, h2⟩ := first_at h
        refine ⟨i + 1, h1, fun j hj => ?_⟩
        cases j with
        | zero => intro e2; injection e2 with e2; exact e e2
        | succ j => exact h2 j (by omega)
theorem tie_erase {hs : List Nat} {busy : List Bool} {i h : Nat} (t : Tie hs busy) (hi : hs[i]? = some h) : Tie (hs.take i ++ hs.drop (i + 1)) (busy.set h false) := by
  have e : (hs.map fun h => (h, Value.bool true)).map Prod.fst = hs := by rw [List.map_map]; exact List.map_id _
  have h1 := fly_erase (l := hs.map fun h => (h, Value.bool true)) (busy := busy) (i := i) (h := h) (x := .bool true) (by rw [e]; exact t.1) (by rw [e]; exact t.2) (by rw [List.getElem?_map, hi]; rfl)
  rw [List.map_append, ← List.map_take, ← List.map_drop] at h1
  have e2 : ∀ l : List Nat, (l.map fun h => (h, Value.bool true)).map Prod.fst = l := fun l => by rw [List.map_map]; exact List.map_id _
  rw [e2, e2] at h1
  exact h1
theorem tie_add {hs : List Nat} {busy : List Bool} {i : Nat} (t : Tie hs busy) (hi : busy[i]? = some false) : Tie (hs ++ [i]) (busy.set i true) := by
  have e2 : ∀ l : List Nat, (l.map fun h => (h, Value.bool true)).map Prod.fst = l := fun l => by rw [List.map_map]; exact List.map_id _
  have h1 := fly_add (l := hs.map fun h => (h, Value.bool true)) (busy := busy) (i := i) (x := .bool true) (by rw [e2]; exact t.1) (by rw [e2]; exact t.2) hi
  rw [List.map_append, e2] at h1
  exact h1
theorem RDrv.q {w : World} {base gm L b n g m : Nat} {q : VQ} {F : Nat → Prop} (h : RDrv w base gm L b n g q m F) : q.busy.length = n ∧ q.put < 65536 ∧ q.got < 65536 := by
  obtain ⟨gt, vF, l, h⟩ := h
  exact ⟨h.len, h.put, h.got⟩
def RSendPost (base gm L b n gC : Nat) (s : VnSt) (m gi go : Nat) (vi : Value) (hi : List Nat) (col : Nat → Nat) (f : List UInt8) (w : World) (e : Ending) (w' : World) : Prop :=
  ∃ m' vo' ho' col', e = .returned (.int .i64 (vSend b n s f).1) ∧ RCard w' base gm L b n gC (vSend b n s f).2.M s.ci (vSend b n s f).2.co m' gi go vi vo' hi ho' col' ∧ Tie ho' (vSend b n s f).2.co.busy ∧ m' ≤ m + 1 ∧ m ≤ m' ∧ Frame (fun k => col k ≠ 0) w w' ∧ Onto w col col'
/-- what a Send holds between the places that it takes back -/
def RDrainInv (base gm L b n gC : Nat) (M : List UInt8) (ci : VQ) (m gi go : Nat) (vi : Value) (hi : List Nat) (col : Nat → Nat) (Q : VQ) (w : World) (gk : Nat) (wr : World) : Prop :=
  ∃ co1 vo1 ho1 col1, RCard wr base gm L b n gC M ci co1 m gi go vi vo1 hi ho1 col1 ∧ Tie ho1 co1.busy ∧ Frame (fun k => col k ≠ 0) w wr ∧ Onto w col col1 ∧ vDrain M (b + vSize n) n gk co1 = Q ∧ vLag M (b + vSize n) n co1 + 1 ≤ gk
theorem rsend_bad (base gm L b n gC : Nat) (s : VnSt) (m gi go : Nat) (vi vo : Value) (hi ho : List Nat) (col : Nat → Nat) (A : Option Addr) (cap : Nat) (f : List UInt8) (w : World) (h : RCard w base gm L b n gC s.M s.ci s.co m gi go vi vo hi ho col) (ht : Tie ho s.co.busy) (hlen : f.length ≤ 100000) (hbad : f.length < 14 ∨ f.length > 1514) :
    Calls Try.prog 15 #[.pointer (some ⟨gC, 0, none⟩), .slice A f.length cap] w (RSendPost base gm L b n gC s m gi go vi hi col f w) := by
  have HP := hid (show RSendPost base gm L b n gC s m gi go vi hi col f w (.returned (.int .i64 14)) w from by
    unfold RSendPost vSend
    rw [if_pos hbad]
    exact ⟨m, vo, ho, col, rfl, h, ht, Nat.le_succ m, Nat.le_refl m, Frame.refl _ _, fun k hk => rfl⟩)
  generalize f.length = k at *
  have hcs : (k : Int) < 14 ∨ ¬ (k : Int) < 14 ∧ (1514 : Int) < (k : Int) := by omega
  clear h hbad
  rcases hcs with h1 | ⟨h1, h2⟩
  all_goals
    go_enter Try.func15, Try.ntmps15
    go_wp2_with fail
    go_ret
    exact HP.out
set_option maxHeartbeats 8000000 in
theorem rsend_good (base gm L b n gC : Nat) (s : VnSt) (m gi go : Nat) (vi vo : Value) (hi ho : List Nat) (col : Nat → Nat) (A : Option Addr) (cap : Nat) (f : List UInt8) (w : World) (h : RCard w base gm L b n gC s.M s.ci s.co m gi go vi vo hi ho col) (ht : Tie ho s.co.busy) (hfit : vFits L (b : Int) (n : Int) = true) (hL : L ≤ 1000000) (hm1 : m < 1000000000)
    (hf : ∀ w', Frame (fun k => col k ≠ 0) w w' → Bs w' (.slice A f.length cap) f) (hlo : 14 ≤ f.length) (hhi : f.length ≤ 1514) :
    Calls Try.prog 15 #[.pointer (some ⟨gC, 0, none⟩), .slice A f.length cap] w (RSendPost base gm L b n gC s m gi go vi hi col f w) := by
  obtain ⟨hok, hfb⟩ := fits_parts hfit
  have hn := okN_le hok
  obtain ⟨fb, fo, rfl⟩ : ∃ fb fo, A = some ⟨fb, fo, none⟩ := by
    obtain ⟨_, _, _, h4⟩ := Bs.open (hf w (Frame.refl _ _))
    rcases h4 with h4 | ⟨fb, fo, h4, _⟩
    · omega
    · exact ⟨fb, fo, h4⟩
  have HFc := hid (show ∀ w', Frame (fun k => col k ≠ 0) w w' → ∀ j x, f[j]? = some x → w'.cell? ⟨fb, fo + j, none⟩ = some (.int .u8 (x.toNat : Int)) from fun w' hw j x hx => by
    obtain ⟨_, _, _, h4⟩ := Bs.open (hf w' hw)
    have hj := (List.getElem?_eq_some_iff.1 hx).1
    rcases h4 with h4 | ⟨fb', fo', h4, h5⟩
    · omega
    · injection h4 with h4
      injection h4 with e1 e2
      subst e1 e2
      rw [h5 j hj, (List.getElem?_eq_some_iff.1 hx).2])
  have Hbad := hid (show ¬ (f.length < 14 ∨ f.length > 1514) by omega)
  have HA := hid (And.intro hfit hfb)
  have Hok := hid hok
  have Hm1 := hid hm1
  have hgot := h.qo.q.2.2
  obtain ⟨Q, hQ⟩ : ∃ Q, vDrain s.M (b + vSize n) n 65536 s.co = Q := ⟨_, rfl⟩
  have HQ := hid hQ
  have H0 := hid (show RDrainInv base gm L b n gC s.M s.ci m gi go vi hi col Q w 65536 w from ⟨s.co, vo, ho, col, h, ht, Frame.refl _ _, fun k hk => rfl, hQ, vLag_lt _ _ _ _⟩)
  obtain ⟨l, hl⟩ : ∃ l, f.length = l := ⟨_, rfl⟩
  have Hl := hid hl
  rw [hl] at hlo hhi ⊢
  have t1 : ¬ (l : Int) < 14 := by omega
  have t2 : ¬ (1514 : Int) < (l : Int) := by omega
  obtain ⟨b2, hb2⟩ : ∃ x, b + vSize n = x := ⟨_, rfl⟩
  have Hb2 := hid hb2
  have hb2L : b2 + vSize n ≤ L := by omega
  have Hb2L := hid hb2L
  clear h ht hok hf hl hQ hfit hfb hm1 hgot hb2 hb2L
  go_enter Try.func15, Try.ntmps15
  go_wp2_with fail
  go_loopg [5, 6, 7] 65536 (fun gk _ _ _ wr => RDrainInv base gm L b n gC s.M s.ci m gi go vi hi col Q w gk wr)
  case atStart => exact H0.out
  case round =>
    obtain ⟨co1, vo1, ho1, col1, hR, hT, hF, hO, hd, hlag⟩ := hrel
    rw [Hb2.out] at hd hlag
    have R1 := hid hR
    have T1 := hid hT
    have F1 := hid hF
    have O1 := hid hO
    have Hd := hid hd
    have Hlag := hid hlag
    obtain ⟨k, rfl⟩ : ∃ k, gk = k + 1 := ⟨gk - 1, by omega⟩
    have c1 : wr.cell? ⟨gC, 1, none⟩ = some (.pointer (some ⟨go, 0, none⟩)) := R1.out.tab.cell 1
    have HU := hid (rused_at base gm L b2 n go m co1 s.M (fun k => col1 k = 3) wr (by rw [← Hb2.out]; exact R1.out.qo) R1.out.mem R1.out.len hL (by rw [R1.out.cm]; decide) Hok.out Hb2L.out Hm1.out)
    clear hR hT hF hO hd hlag
    rcases vUsed_cases s.M b2 n co1 R1.out.qo.q.2.2 with ⟨hu, hl0⟩ | ⟨q', hu, hb', hl'⟩ | ⟨hd, le, q', hu, hbh, hb', hl', hdl⟩
    · rw [hu] at HU
      obtain rfl : co1 = Q := by rw [← Hd.out]; exact (vDrain_none hu (k + 1)).symm
      clear hu hl0
      go_upto_region 7 with (go_at_call 39; refine HU.out.mono ?_; rintro e w2 ⟨rfl, F', hq, hf2, hF⟩; have Q2 := hid hq; have Fr2 := hid hf2; have HF2 := hid hF; clear hq hf2 hF)
      have hf3 : Frame (fun k => col1 k = 3 ∨ k = gm) wr w2 := Fr2.out.weaken (fun _ _ e => .inl e)
      obtain ⟨col2, r2, o2⟩ := R1.out.out_ (co' := co1) (m' := m) hf3 (by rw [Hb2.out]; exact Q2.out) HF2.out (R1.out.mem.frame Fr2.out (fun e => by rw [R1.out.cm] at e; cases e)) R1.out.len (Nat.le_refl _)
      have R2 := hid r2
      have hz1 := F1.out.size
      have hz2 := Fr2.out.size
      have O2 := hid (onto_trans O1.out o2 hz1)
      have F2 := hid (F1.out.trans Fr2.out (fun k hk e => by have := O1.out k hk; rw [e] at this; omega))
      clear r2 o2 hf3 HU Q2 HF2 Fr2 F1 O1 R1 Hd Hlag c1 H0
      obtain ⟨_, A, c, hvo, _, _, _⟩ := RowN.of_own R2.out.oo
      subst hvo
      obtain ⟨ln, hln⟩ : ∃ x, ho1.length = x := ⟨_, rfl⟩
      have Hln := hid hln
      have Hlm := hid (show ln ≤ 1000000000 by rw [← hln]; have := R2.out.lo; have := Hm1.out; omega)
      have hlnb := Hlm.out
      have c6 : w2.cell? ⟨gC, 6, none⟩ = some (.slice A ln c) := (R2.out.tab.cell 6).trans (congrArg (fun z : Nat => some (Value.slice A z c)) hln)
      have c4 : w2.cell? ⟨gC, 4, none⟩ = some (.int .i64 (n : Int)) := R2.out.tab.cell 4
      have Hrow := hid (show ∀ (j x : Nat), ho1[j]? = some x → ∃ gF, A = some ⟨gF, 0, none⟩ ∧ w2.cell? ⟨gF, j * 2 + 1, none⟩ = some (.int .i64 (x : Int)) from fun j x hx => by
        have hlt := (List.getElem?_eq_some_iff.1 hx).1
        obtain ⟨gF, c', hA⟩ := row_some R2.out.oo (by omega)
        injection hA with hA
        subst hA
        exact ⟨gF, rfl, by have := World.ownsRow.cells R2.out.oo rfl _ _ (offRow_get hx).2; rw [add_off, Nat.zero_add] at this; exact this⟩)
      clear hln
      go_wp2_with fail
      go_loopg [8, 9, 10, 11, 12, 13, 14] n (fun gk s8 _ _ _ _ _ _ wx => ∃ p : Nat, p + gk = n ∧ s8 = .int .i64 (p : Int) ∧ p ≤ vFirst co1.busy ∧ wx = w2)
      case atStart => exact ⟨0, by omega, rfl, Nat.zero_le _, rfl⟩
      case round =>
        obtain ⟨p, hp, rfl, hpf, hw⟩ := hrel
        have hw := hw.symm
        subst hw
        have Hpf := hid hpf
        clear hpf
        by_cases hpn : p < n
        · have hpnI : (p : Int) < (n : Int) := by omega
          have Hms := hid (show n - (p + 1) < gk ∧ p + 1 + (n - (p + 1)) = n by omega)
          clear hp
          go_wp2_with fail
          go_loopg [9, 10] ln (fun gk s9 s10 wx => ∃ (j : Nat) (bb : Bool), j + gk = ln ∧ s10 = .int .i64 (j : Int) ∧ s9 = .bool bb ∧ (bb = true ↔ ∃ q, q < j ∧ ho1[q]? = some p) ∧ wx = w2)
          case atStart => exact ⟨0, false, by omega, rfl, rfl, ⟨fun e => absurd e (by decide), fun ⟨q, hq, _⟩ => by omega⟩, rfl⟩
          case round =>
            obtain ⟨j, bb, hj, rfl, rfl, hbb, hw⟩ := hrel
            have hw := hw.symm
            subst hw
            have Hbb := hid hbb
            clear hbb
            by_cases hjl : j < ln
            · have hjlI : (j : Int) < (ln : Int) := by omega
              obtain ⟨x, hx⟩ : ∃ x, ho1[j]? = some x := ⟨_, List.getElem?_eq_getElem (by rw [Hln.out]; exact hjl)⟩
              obtain ⟨gF, rfl, hr⟩ := Hrow.out j x hx
              have Hx := hid hx
              have Hms2 := hid (show ln - (j + 1) < gk ∧ j + 1 + (ln - (j + 1)) = ln by omega)
              clear hx hj
              cases bb with
              | true =>
                go_wp2_with fail
                go_roundg (ln - (j + 1))
                case measure => exact Hms2.out.1
                case rel =>
                  obtain ⟨q, hq, hqp⟩ := Hbb.out.1 (by first | exact trivial | rfl)
                  exact ⟨j + 1, true, Hms2.out.2, by go_num, rfl, ⟨fun _ => ⟨q, by omega, hqp⟩, fun _ => rfl⟩, rfl⟩
              | false =>
                have hno : ¬ ∃ q, q < j ∧ ho1[q]? = some p := fun e => by have := Hbb.out.2 e; cases this
                by_cases hxp : x = p
                · subst hxp
                  have hxe : ((x : Int) == (x : Int)) = true := by simp
                  have Hno := hid hno
                  clear hno
                  go_wp2_with fail
                  go_roundg (ln - (j + 1))
                  case measure => exact Hms2.out.1
                  case rel => exact ⟨j + 1, true, Hms2.out.2, by go_num, rfl, ⟨fun _ => ⟨j, by omega, Hx.out⟩, fun _ => rfl⟩, rfl⟩
                · have hxe : ((x : Int) == (p : Int)) = false := by simp; omega
                  have Hno := hid (And.intro hno hxp)
                  clear hno hxp
                  go_wp2_with fail
                  go_roundg (ln - (j + 1))
                  case measure => exact Hms2.out.1
                  case rel =>
                    refine ⟨j + 1, false, Hms2.out.2, by go_num, rfl, ⟨fun e => absurd e (by decide), fun ⟨q, hq, hqp⟩ => ?_⟩, rfl⟩
                    by_cases e : q = j
                    · subst e
                      rw [Hx.out] at hqp
                      injection hqp with hqp
                      exact absurd hqp Hno.out.2
                    · exact absurd ⟨q, by omega, hqp⟩ Hno.out.1
            · obtain rfl : j = ln := by omega
              have hjlI : ¬ (j : Int) < (j : Int) := by omega
              clear hj
              have hmem : bb = true ↔ p ∈ ho1 := by
                rw [Hbb.out]
                constructor
                · rintro ⟨q, _, hq⟩
                  exact List.mem_of_getElem? hq
                · intro e
                  obtain ⟨q, hq, hqe⟩ := List.mem_iff_getElem.1 e
                  exact ⟨q, by rw [← Hln.out]; exact hq, by rw [List.getElem?_eq_getElem hq, hqe]⟩
              cases bb with
              | true =>
                have Hnx := hid (vFirst_true ((T1.out.2 p).1 (hmem.1 rfl)) Hpf.out)
                clear hmem
                go_wp2_with fail
                go_roundg (n - (p + 1))
                case measure => exact Hms.out.1
                case rel => exact ⟨p + 1, Hms.out.2, by go_num, Hnx.out, rfl⟩
              | false =>
                have hfree : co1.busy[p]? = some false := by
                  have hl2 : p < co1.busy.length := by rw [R2.out.qo.q.1]; exact hpn
                  rw [List.getElem?_eq_getElem hl2]
                  cases hv : co1.busy[p] with
                  | false => rfl
                  | true =>
                    have : p ∈ ho1 := (T1.out.2 p).2 (by rw [List.getElem?_eq_getElem hl2, hv])
                    have := hmem.2 this
                    cases this
                have Hfree := hid hfree
                have Hfi := hid (vFirst_false hfree Hpf.out)
                clear hmem hfree
                obtain ⟨np, hnp⟩ : ∃ x, n + p = x := ⟨_, rfl⟩
                have hnpI : (n : Int) + (p : Int) = (np : Int) := by omega
                obtain ⟨k12, hk⟩ : ∃ k, 12 + l = k := ⟨_, rfl⟩
                have hkI : (12 : Int) + (l : Int) = (k12 : Int) := by omega
                have hk12 : k12 ≤ 1526 := by omega
                have Hk := hid hk
                obtain ⟨at_, hat⟩ : ∃ x, vPlace b n np = x := ⟨_, rfl⟩
                have hatL : at_ + k12 ≤ L := by
                  have h1 := HA.out.2
                  rw [← hat, ← hnp]
                  unfold vPlace
                  have : (n + p) * 1528 + 1528 ≤ 2 * n * 1528 := by omega
                  omega
                have HatL := hid hatL
                have hatb : at_ ≤ 1000000 := by omega
                have HAt := hid (rat_at gC b n np w2 (R2.out.tab.cell 3) (R2.out.tab.cell 4) Hok.out (by have := HA.out.2; omega) (by omega))
                rw [hat] at HAt
                have Hnp := hid (show vPlace b n (n + p) = at_ by rw [hnp]; exact hat)
                clear hnp hk hat hatL
                go_upto_region 17 with (go_at_call 41; (with_reducible refine HAt.out.mono ?_); rintro e w3 ⟨rfl, q, rfl⟩; have b3 := hid (below_drewN (Below.refl w2.heap.size w2) q))
                have R3 := hid (R2.out.keep b3.out)
                have F3 := hid (F2.out.trans (Below.frameF b3.out _) (fun _ _ e => e))
                have O3 := hid (show Onto w col col2 from O2.out)
                have hz3 := b3.out.size
                clear R2 F2 O2 b3 c6 c4 HAt Hrow
                generalize w2.drewN q = w3 at *
                have Hcm := hid (show ∀ k, k = gm → col k ≠ 0 ∨ w.heap.size ≤ k from fun k e => onto_ne O3.out k (by rw [e, R3.out.cm]; decide))
                go_wp2_with fail
                go_loopg [12] k12 (fun gk s12 wx => ∃ i : Nat, i + gk = k12 ∧ s12 = .int .i64 (i : Int) ∧ MemAt wx gm (patch s.M at_ ((vFrame f).take i)) ∧ Frame (fun k => k = gm) w3 wx)
                case atStart => exact ⟨0, by omega, rfl, by rw [List.take_zero, patch_nil]; exact R3.out.mem, Frame.refl _ _⟩
                case round =>
                  obtain ⟨i, hi, rfl, hMi, hFi⟩ := hrel
                  have HMi := hid hMi
                  have HFi := hid hFi
                  have c2 : wr.cell? ⟨gC, 2, none⟩ = some (.slice (some ⟨gm, 0, none⟩) L L) := cell_frame hFi (R3.out.tab.cell 2) (fun e => by have := R3.out.cm; rw [← e, R3.out.cC] at this; cases this)
                  have Hvl := hid (show (vFrame f).length = k12 by rw [vFrame_len, Hl.out, Hk.out])
                  clear hMi hFi
                  by_cases hlt : i < k12
                  · have hltI : (i : Int) < (k12 : Int) := by omega
                    have hlen : (patch s.M at_ ((vFrame f).take i)).length = L := by rw [patch_len (by rw [List.length_take, R3.out.len, Hvl.out]; have := HatL.out; omega), R3.out.len]
                    obtain ⟨old, hco⟩ : ∃ old, wr.cell? ⟨gm, at_ + i, none⟩ = some old := ⟨_, (Blk.cell HMi.out (at_ + i)).trans (List.getElem?_eq_getElem (by rw [List.length_map, hlen]; have := HatL.out; omega))⟩
                    have zp := Blk.frozen HMi.out (at_ + i)
                    have hadi : at_ + i < L := by have := HatL.out; omega
                    have hadiI : (at_ : Int) + (i : Int) < (L : Int) := by omega
                    have hge0 : (0 : Int) ≤ (at_ : Int) + (i : Int) := by omega
                    have htn : ((at_ : Int) + (i : Int)).toNat = at_ + i := by omega
                    have hwai : IntKind.i64.wrap ((at_ : Int) + (i : Int)) = (at_ : Int) + (i : Int) := IntWalk.i64_in _ (by omega)
                    have Fz := hid (frame_mem (grown_set wr gm (at_ + i) (.int .u8 0)))
                    have c2z := cell_frame Fz.out c2 (fun e => by have := R3.out.cm; rw [← e, R3.out.cC] at this; cases this)
                    have Hz := hid c2z
                    have Mz := hid (Blk.set_ HMi.out (at_ + i) (u8v 0))
                    have Hms3 := hid (show k12 - (i + 1) < gk ∧ i + 1 + (k12 - (i + 1)) = k12 by omega)
                    clear hlen c2z hi
                    go_upto_region 21 with fail
                    have Mz2 := hid (show MemAt (wr.setCell ⟨gm, at_ + i, none⟩ (.int .u8 0)) gm ((patch s.M at_ ((vFrame f).take i)).set (at_ + i) 0) from by
                      have := Mz.out
                      rw [← List.map_set] at this
                      exact this)
                    have Fz2 := hid (HFi.out.trans Fz.out (fun _ _ e => e) : Frame (fun k => k = gm) w3 (wr.setCell ⟨gm, at_ + i, none⟩ (.int .u8 0)))
                    have c2 : (wr.setCell ⟨gm, at_ + i, none⟩ (.int .u8 0)).cell? ⟨gC, 2, none⟩ = some (.slice (some ⟨gm, 0, none⟩) L L) := Hz.out
                    clear Mz Fz hco zp Hz
                    generalize wr.setCell ⟨gm, at_ + i, none⟩ (.int .u8 0) = wz at *
                    have HFw := hid (fun (wx : World) (hx : Frame (fun k => k = gm) w3 wx) => F3.out.trans hx (fun k hk e => (Hcm.out k e).elim id (fun e2 => by omega)))
                    by_cases h12 : i < 12
                    · have h12I : ¬ (12 : Int) ≤ (i : Int) := by omega
                      have Hst := hid (patch_step s.M (vFrame f) at_ i 0 (vFrame_get f i h12) (by rw [Hvl.out, R3.out.len]; exact HatL.out))
                      clear h12
                      go_wp2_with fail
                      go_roundg (k12 - (i + 1))
                      case measure => exact Hms3.out.1
                      case rel => exact ⟨i + 1, Hms3.out.2, by go_num, by rw [← Hst.out]; exact Mz2.out, Fz2.out⟩
                    · have h12I : (12 : Int) ≤ (i : Int) := by omega
                      obtain ⟨j, hj⟩ : ∃ j, i = 12 + j := ⟨i - 12, by omega⟩
                      have hjl : j < l := by have := Hk.out; omega
                      have hjlI : (j : Int) < (l : Int) := by omega
                      have hjI : (i : Int) - 12 = (j : Int) := by omega
                      have hwj : IntKind.i64.wrap (j : Int) = (j : Int) := IntWalk.i64_in _ (by omega)
                      obtain ⟨x, hx⟩ : ∃ x, f[j]? = some x := ⟨_, List.getElem?_eq_getElem (by rw [Hl.out]; exact hjl)⟩
                      have hfc : wz.cell? ⟨fb, fo + j, none⟩ = some (.int .u8 (x.toNat : Int)) := HFc.out wz (HFw.out wz Fz2.out) j x hx
                      have Hst := hid (patch_step s.M (vFrame f) at_ i x (by rw [hj]; exact vFrame_get2 f j x hx) (by rw [Hvl.out, R3.out.len]; exact HatL.out))
                      obtain ⟨old, hco⟩ : ∃ old, wz.cell? ⟨gm, at_ + i, none⟩ = some old := ⟨_, (Blk.cell Mz2.out (at_ + i)).trans (List.getElem?_eq_getElem (by rw [List.length_map, List.length_set, patch_len (by rw [List.length_take, R3.out.len, Hvl.out]; have := HatL.out; omega), R3.out.len]; exact hadi))⟩
                      have zp := Blk.frozen Mz2.out (at_ + i)
                      have Fy := hid (frame_mem (grown_set wz gm (at_ + i) (.int .u8 (x.toNat : Int))))
                      have Hy := hid (show (wz.setCell ⟨gm, at_ + i, none⟩ (.int .u8 (x.toNat : Int))).cell? ⟨gC, 2, none⟩ = some (.slice (some ⟨gm, 0, none⟩) L L) ∧ (wz.setCell ⟨gm, at_ + i, none⟩ (.int .u8 (x.toNat : Int))).cell? ⟨fb, fo + j, none⟩ = some (.int .u8 (x.toNat : Int)) from
                        ⟨cell_frame Fy.out c2 (fun e => by have := R3.out.cm; rw [← e, R3.out.cC] at this; cases this), HFc.out _ (HFw.out _ (Fz2.out.trans Fy.out (fun _ _ e => e))) j x hx⟩)
                      have My := hid (show MemAt (wz.setCell ⟨gm, at_ + i, none⟩ (.int .u8 (x.toNat : Int))) gm (patch s.M at_ ((vFrame f).take (i + 1))) from by
                        have h2 := Blk.set_ Mz2.out (at_ + i) (u8v x)
                        rw [← List.map_set, List.set_set, Hst.out] at h2
                        exact h2)
                      have hxl : x.toNat < 256 := x.toNat_lt
                      clear h12 hx Hst hj
                      go_step
                      go_upto_region 22 with fail
                      go_region_held3 (fun wy => wy.cell? ⟨gC, 2, none⟩ = some (.slice (some ⟨gm, 0, none⟩) L L) ∧ wy.cell? ⟨fb, fo + j, none⟩ = some (.int .u8 (x.toNat : Int))) (first | exact ⟨c2, hfc⟩ | exact Hy.out) (fail)
                      go_wp2_with fail
                      go_roundg (k12 - (i + 1))
                      case measure => exact Hms3.out.1
                      case rel => exact ⟨i + 1, Hms3.out.2, by go_num, MemAt.keep My.out (below_drew _), (Fz2.out.trans Fy.out (fun _ _ e => e)).trans (Below.frameF (below_drew _) _) (fun _ _ e => e)⟩
                  · obtain rfl : i = k12 := by omega
                    have hltI : ¬ (i : Int) < (i : Int) := by omega
                    have M5 := hid (show MemAt wr gm (patch s.M at_ (vFrame f)) from by
                      have := HMi.out
                      rw [List.take_of_length_le (by rw [Hvl.out]; exact Nat.le_refl _)] at this
                      exact this)
                    have Hl5 := hid (show (patch s.M at_ (vFrame f)).length = L by rw [patch_len (by rw [Hvl.out, R3.out.len]; exact HatL.out), R3.out.len])
                    have R5 := hid (R3.out.mem_ HFi.out M5.out Hl5.out)
                    have F5 := hid (F3.out.trans HFi.out (fun k hk e => (Hcm.out k e).elim id (fun e2 => by omega)))
                    have hz5 := HFi.out.size
                    have c1 : wr.cell? ⟨gC, 1, none⟩ = some (.pointer (some ⟨go, 0, none⟩)) := R5.out.tab.cell 1
                    have HAdd := hid (fun wy (hy : Below wr.heap.size wr wy) (gl : Nat) (hgl : wr.heap.size ≤ gl) (hb : Blk wy gl 93 [.int .i64 (at_ : Int), .int .i64 (i : Int), .bool false]) =>
                      (show Calls Try.prog 42 #[.pointer (some ⟨go, 0, none⟩), .slice (some ⟨gl, 0, none⟩) 1 1] wy _ from
                        radd_at base gm L b2 n go m p at_ i gl false co1 (patch s.M at_ (vFrame f)) (fun k => col2 k = 3) wy (by rw [← Hb2.out]; exact (R5.out.keep hy).qo) (R5.out.keep hy).mem (R5.out.keep hy).len hL (by rw [R3.out.cm]; decide) Hok.out Hb2L.out Hfree.out (fun j hj => vFirst_before (by rw [Hfi.out]; exact hj)) hb (fun e => by have := (R5.out.flt gl (by rw [e]; decide)).2; omega) (by omega) (by omega) Hm1.out 0 rfl))
                    have Hlen6 := hid (show (vAddM (patch s.M at_ (vFrame f)) b2 n co1.put p at_ i 0).length = L by rw [vAddM_len _ _ _ _ _ _ _ _ (by omega) hpn (by rw [Hl5.out]; exact Hb2L.out), Hl5.out])
                    clear hi c2
                    go_upto_region 24 with (go_at_call 42; refine (HAdd.out _ (below_alloc _ _) wr.heap.size (Nat.le_refl _) (Blk.new _ _ _)).mono ?_; rintro e w6 ⟨rfl, F', hq, hmem, hfr, hF⟩; have Bx := hid (below_alloc wr (.cells #[.int .i64 (at_ : Int), .int .i64 (i : Int), .bool false] 93)); obtain ⟨col3, r3, on3⟩ := (R5.out.keep Bx.out).out_ hfr (by rw [Hb2.out]; exact hq) hF hmem Hlen6.out (Nat.le_succ m); have R6 := hid r3; have On6 := hid (show Onto wr col2 col3 from fun k hk => on3 k (Nat.lt_of_lt_of_le hk Bx.out.size)); have F6 := hid ((Below.frameF Bx.out (fun k => col2 k ≠ 0)).trans hfr (fun k _ e => e.elim (fun e => by rw [e]; decide) (fun e => by rw [e, R3.out.cm]; decide))); clear hq hmem hfr hF r3 on3)
                    have hz6 := F6.out.size
                    have c6 : w6.cell? ⟨gC, 6, none⟩ = some (.slice A j c) := (R6.out.tab.cell 6).trans (congrArg (fun z : Nat => some (Value.slice A z c)) Hln.out)
                    have hown := R6.out.oo
                    unfold OffAt at hown
                    rw [Hln.out] at hown
                    have Hown := hid hown
                    have z6 := R6.out.tab.frozen 6
                    have Hbase := hid (show base ≤ w6.heap.size from by have := R6.out.flt gC (by rw [R6.out.cC]; decide); omega)
                    clear hown HAdd c1
                    go_wp2_with ((with_reducible show wpList _ _ _ (Oper.mk (some 140) _ _ _ _ _ :: _) _ _); refine wpList_app _ rfl _ _ 65 rfl base 90 (.agg #[.int .i64 0, .int .i64 0]) 2 16 offok (.slice A j c) j (offRow ho1) rfl (own_below Hown.out (below_alloc _ _)) (.slice (some ⟨w6.heap.size, 0, none⟩) 1 1) 1 [.int .i64 (p : Int), .int .i64 (p : Int)] rfl (rowS_lit 2 #[.int .i64 (p : Int), .int .i64 (p : Int)] 1 _ rfl rfl (by simp [maxLen])) (by simp [Value.oneCell']) (by have := Hlm.out; omega) (by have := Hlm.out; simp only [maxLen]; omega) (by have := Hbase.out; simp; omega) ?_; intro v9 w9 hown9 hg9 hat9; obtain ⟨_, A9, k9, rfl, _, _, _⟩ := RowN.of_own hown9; have O9 := hid hown9; have G9 := hid (show Frame (fun k => (Value.slice A j c).ownBlock = some k) w6 w9 from (Below.frameF (below_alloc w6 (.cells #[.int .i64 (p : Int), .int .i64 (p : Int)] 90)) _).trans (frame_grown hg9 (fun _ e => e)) (fun _ _ e => e)); have X9 := hid hat9; have T9 := hid (G9.out.blk R6.out.tab (fun e => by have := R6.out.ko gC (by rw [Hln.out]; exact e); rw [R6.out.cC] at this; cases this)); have c6 : w9.cell? ⟨gC, 6, none⟩ = some (.slice A j c) := (T9.out.cell 6).trans (congrArg (fun z : Nat => some (Value.slice A z c)) Hln.out); have z6 := T9.out.frozen 6; clear hown9 hg9 hat9)
                    go_ret
                    have hz9 := G9.out.size
                    obtain ⟨col4, R9, On9⟩ := R6.out.outl_ (v' := .slice A9 (j + 1) k9) (hs := ho1 ++ [p]) (by rw [Hln.out]; exact G9.out) (by
                      unfold OffAt
                      rw [List.length_append, offRow_app, Hln.out, offpair]
                      exact O9.out) (fun k hk => by
                      rcases X9.out with e | e
                      · rw [e] at hk
                        rw [Hln.out]
                        exact .inl hk
                      · rw [e] at hk
                        injection hk with hk
                        have := (below_alloc w6 (.cells #[.int .i64 (p : Int), .int .i64 (p : Int)] 90)).size
                        exact .inr (by rw [← hk]; exact this)) (by have := R3.out.lo; rw [List.length_append]; exact Nat.succ_le_succ this)
                    have Hs := vSend_yes (b := b) Hbad.out HQ.out Hfi.out hpn
                    rw [Hnp.out, Hl.out, Hk.out, Hb2.out] at Hs
                    unfold RSendPost
                    rw [Hs]
                    have O5 : Onto w col col3 := onto_trans O3.out On6.out (by omega)
                    refine ⟨m + 1, _, _, col4, rfl, R9, tie_add T1.out Hfree.out, Nat.le_refl _, Nat.le_succ m, ?_, onto_trans O5 On9 (by omega)⟩
                    have hf9 : Frame (fun k => col3 k ≠ 0) w6 (w9.setCell ⟨gC, 6, none⟩ (.slice A9 (j + 1) k9)) := (G9.out.weaken (fun k _ e => by have := R6.out.ko k (by rw [Hln.out]; exact e); rw [this]; decide)).trans (frame_mem (grown_set w9 gC 6 (.slice A9 (j + 1) k9))) (fun k _ e => by subst e; rw [R6.out.cC]; decide)
                    exact (F5.out.trans F6.out (fun k hk e => (onto_ne O3.out k e).elim id (fun e2 => by omega))).trans hf9 (fun k hk e => (onto_ne O5 k e).elim id (fun e2 => by omega))
        · obtain rfl : p = n := by omega
          have hpnI : ¬ (p : Int) < (p : Int) := by omega
          have Hs := hid (vSend_no (b := b) Hbad.out HQ.out (by have := Hpf.out; omega))
          clear hp
          go_wp2_with fail
          go_ret
          unfold RSendPost
          rw [Hs.out]
          exact ⟨m, _, ho1, col2, rfl, R2.out, T1.out, Nat.le_succ m, Nat.le_refl m, F2.out, O2.out⟩
    · rw [hu] at HU
      have Hst := hid (show vDrain s.M b2 n k q' = Q by rw [← Hd.out]; exact (vDrain_step hu k).symm)
      have Hlp := hid (And.intro hb' hl')
      clear hu hb' hl'
      go_wp2_with (go_at_call 39; refine HU.out.mono ?_; rintro e w2 ⟨rfl, F', hq, hf2, hF⟩; have Q2 := hid hq; have Fr2 := hid hf2; have HF2 := hid hF; clear hq hf2 hF)
      go_roundg k
      case measure => omega
      case rel =>
        have hf3 : Frame (fun k => col1 k = 3 ∨ k = gm) wr w2 := Fr2.out.weaken (fun _ _ e => .inl e)
        obtain ⟨col2, r2, o2⟩ := R1.out.out_ (co' := q') (m' := m) hf3 (by rw [Hb2.out]; exact Q2.out) HF2.out (R1.out.mem.frame Fr2.out (fun e => by rw [R1.out.cm] at e; cases e)) R1.out.len (Nat.le_refl _)
        have hz := F1.out.size
        exact ⟨q', vo1, ho1, col2, r2, by rw [Hlp.out.1]; exact T1.out, F1.out.trans Fr2.out (fun k hk e => by have := O1.out k hk; rw [e] at this; omega), onto_trans O1.out o2 hz, by rw [Hb2.out]; exact Hst.out, by rw [Hb2.out]; have := Hlag.out; have := Hlp.out.2; omega⟩
    · rw [hu] at HU
      have Hst := hid (show vDrain s.M b2 n k q' = Q by rw [← Hd.out]; exact (vDrain_step hu k).symm)
      have Hlp := hid (And.intro hb' hl')
      obtain ⟨i0, hi0, hne0⟩ := first_at ((T1.out.2 hd).2 hbh)
      have Hi0 := hid (And.intro hi0 hne0)
      clear hu hb' hl' hi0 hne0 hbh
      go_upto_region 6 with (go_at_call 39; refine HU.out.mono ?_; rintro e w2 ⟨rfl, F', hq, hf2, hF⟩; have Q2 := hid hq; have Fr2 := hid hf2; have HF2 := hid hF; clear hq hf2 hF)
      have hf3 : Frame (fun k => col1 k = 3 ∨ k = gm) wr w2 := Fr2.out.weaken (fun _ _ e => .inl e)
      obtain ⟨col2, r2, o2⟩ := R1.out.out_ (co' := q') (m' := m) hf3 (by rw [Hb2.out]; exact Q2.out) HF2.out (R1.out.mem.frame Fr2.out (fun e => by rw [R1.out.cm] at e; cases e)) R1.out.len (Nat.le_refl _)
      have R2 := hid r2
      have O2 := hid o2
      have HTk := hid (rtaken_at base vo1 ho1 i0 hd w2 R2.out.oo Hi0.out.1 Hi0.out.2 (by have := R2.out.lo; have := Hm1.out; omega))
      have c6 : w2.cell? ⟨gC, 6, none⟩ = some vo1 := R2.out.tab.cell 6
      clear r2 o2 hf3 HU
      go_wp2_with (go_at_call 40; refine HTk.out.mono ?_; rintro e w3 ⟨A3, k3, c3, rfl, ho3, hb3⟩; have O3 := hid ho3; have B3 := hid hb3; have T3 := hid (R2.out.keep hb3).tab; have c6 : w3.cell? ⟨gC, 6, none⟩ = some vo1 := T3.out.cell 6; have z6 := T3.out.frozen 6; clear ho3 hb3)
      go_roundg k
      case measure => omega
      case rel =>
        have hz := F1.out.size
        have hz2 := Fr2.out.size
        obtain ⟨col3, r3, o3⟩ := R2.out.outl_ (v' := .slice A3 k3 c3) (hs := ho1.take i0 ++ ho1.drop (i0 + 1)) (Below.frameF B3.out _) (own_mono O3.out (by have := R2.out.flt gC (by rw [R2.out.cC]; decide); omega)) (fun j hj => .inr (World.ownsRow.lt O3.out j hj).1) (by rw [List.length_append, List.length_take, List.length_drop]; have := R2.out.lo; omega)
        refine ⟨q', _, _, col3, r3, by rw [Hlp.out.1]; exact tie_erase T1.out Hi0.out.1, ?_, onto_trans (onto_trans O1.out O2.out hz) o3 (by omega), by rw [Hb2.out]; exact Hst.out, by rw [Hb2.out]; have := Hlag.out; have := Hlp.out.2; omega⟩
        refine (F1.out.trans Fr2.out (fun k hk e => by have := O1.out k hk; rw [e] at this; omega)).trans ((Below.frameF B3.out (fun k => k = gC)).trans (frame_mem (grown_set w3 gC 6 (.slice A3 k3 c3))) (fun _ _ e => e)) (fun k hk e => ?_)
        subst e
        have h1 := O1.out k hk
        have h2 := R1.out.cC
        omega
/-- the document's Send -/
theorem rsend_at (base gm L b n gC : Nat) (s : VnSt) (m gi go : Nat) (vi vo : Value) (hi ho : List Nat) (col : Nat → Nat) (v : Value) (f : List UInt8) (w : World) (h : RCard w base gm L b n gC s.M s.ci s.co m gi go vi vo hi ho col) (ht : Tie ho s.co.busy) (hfit : vFits L (b : Int) (n : Int) = true) (hL : L ≤ 1000000) (hm1 : m < 1000000000)
    (hf : ∀ w', Frame (fun k => col k ≠ 0) w w' → Bs w' v f) (hlen : f.length ≤ 100000) :
    Calls Try.prog 15 #[.pointer (some ⟨gC, 0, none⟩), v] w (RSendPost base gm L b n gC s m gi go vi hi col f w) := by
  obtain ⟨A, cap, rfl⟩ := slice_len (hf w (Frame.refl _ _)) rfl
  by_cases hbad : f.length < 14 ∨ f.length > 1514
  · exact rsend_bad base gm L b n gC s m gi go vi vo hi ho col A cap f w h ht hlen hbad
  · exact rsend_good base gm L b n gC s m gi go vi vo hi ho col A cap f w h ht hfit hL hm1 hf (by omega) (by omega)
end Go.Proofs.Ytgiegiobigdplaa
