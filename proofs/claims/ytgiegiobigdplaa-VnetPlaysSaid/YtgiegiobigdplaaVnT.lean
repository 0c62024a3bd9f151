/- The program's port delivers. -/
import Derived.Test.YtgiegiobigdplaaVnQ
namespace Go.Proofs.Ytgiegiobigdplaa
section
open Go Go.RowKit
attribute [local go_sem ↓] Go.wp_at_zero Go.wp_at_succ
set_option maxRecDepth 100000
set_option linter.unusedSimpArgs false
set_option linter.unusedVariables false

def vLies (L : Nat) (l : List VBuf) (write : Bool) : Bool := match l with
  | [x] => (x.write == write) && decide (x.addr + x.len ≤ L)
  | _ => false
theorem vlies_other (gP k cap : Nat) (A : Option Addr) (write : Bool) (w : World) (hk : k ≠ 1) (hkl : k ≤ 1000) :
    Calls Try.prog 45 #[.pointer (some ⟨gP, 0, none⟩), .slice A k cap, .bool write] w fun e w' => e = .returned (.bool false) ∧ ∃ q, w' = w.drewN q := by
  have hk1 : ((k : Int) == 1) = false := by simp; omega
  have hk2 : ¬ k = 1 := hk
  have hk3 : ¬ (k : Int) = 1 := by omega
  clear hk
  go_enter Try.func45, Try.ntmps45
  go_upto_region 1 with fail
  go_quiet (fail)
  all_goals
    go_wp2_with fail
    go_ret
    exact ⟨rfl, _, rfl⟩
theorem vlies_one (gP g gm L cap ad ln : Nat) (wb write : Bool) (w : World) (c0 : w.cell? ⟨gP, 0, none⟩ = some (.slice (some ⟨gm, 0, none⟩) L L)) (r0 : w.cell? ⟨g, 0, none⟩ = some (.int .i64 (ad : Int))) (r1 : w.cell? ⟨g, 1, none⟩ = some (.int .i64 (ln : Int))) (r2 : w.cell? ⟨g, 2, none⟩ = some (.bool wb))
    (hL : L ≤ 1000000) (hln : ln < 4294967296) :
    Calls Try.prog 45 #[.pointer (some ⟨gP, 0, none⟩), .slice (some ⟨g, 0, none⟩) 1 cap, .bool write] w fun e w' => e = .returned (.bool ((wb == write) && decide (ad + ln ≤ L))) ∧ ∃ q, w' = w.drewN q := by
  have hw : IntKind.i64.wrap ((L : Int) - (ln : Int)) = (L : Int) - (ln : Int) := IntWalk.i64_in _ (by omega)
  obtain ⟨X, hX⟩ : ∃ X, ((wb == write) && decide (ad + ln ≤ L)) = X := ⟨_, rfl⟩
  rw [hX]
  by_cases hwr : wb = write
  · subst hwr
    have hwe : (wb == wb) = true := by simp
    by_cases hle : ad + ln ≤ L
    · have hleI : (ad : Int) ≤ (L : Int) - (ln : Int) := by omega
      have hx : X = true := by rw [← hX]; simp [hle]
      subst hx
      clear hX hle
      go_enter Try.func45, Try.ntmps45
      go_upto_region 1 with fail
      go_quiet (fail)
      all_goals
        go_wp2_with fail
        go_ret
        exact ⟨rfl, _, rfl⟩
    · have hleI : ¬ (ad : Int) ≤ (L : Int) - (ln : Int) := by omega
      have hx : X = false := by rw [← hX]; simp [hle]
      subst hx
      clear hX hle
      go_enter Try.func45, Try.ntmps45
      go_upto_region 1 with fail
      go_quiet (fail)
      all_goals
        go_wp2_with fail
        go_ret
        exact ⟨rfl, _, rfl⟩
  · have hwe : (wb == write) = false := by simpa using hwr
    have hx : X = false := by rw [← hX, hwe]; rfl
    subst hx
    clear hX hwr
    go_enter Try.func45, Try.ntmps45
    go_upto_region 1 with fail
    go_quiet (fail)
    all_goals
      go_wp2_with fail
      go_ret
      exact ⟨rfl, _, rfl⟩
theorem vlies_at (base gP gm L : Nat) (l : List VBuf) (v : Value) (write : Bool) (w : World) (c0 : w.cell? ⟨gP, 0, none⟩ = some (.slice (some ⟨gm, 0, none⟩) L L)) (hr : w.ownsRow base 93 3 v l.length (bufRow l)) (hL : L ≤ 1000000) (hlen : l.length ≤ 1000) (hx : ∀ x ∈ l, x.len < 4294967296) :
    Calls Try.prog 45 #[.pointer (some ⟨gP, 0, none⟩), v, .bool write] w fun e w' => e = .returned (.bool (vLies L l write)) ∧ ∃ q, w' = w.drewN q := by
  obtain ⟨_, A, cap, hv, _, _, _⟩ := RowN.of_own hr
  by_cases h1 : l.length = 1
  · obtain ⟨x, rfl⟩ := List.length_eq_one_iff.1 h1
    obtain ⟨ad, ln, wb⟩ := x
    rcases hr.2 with ⟨_, h0⟩ | ⟨g, c, cur, rfl, _⟩
    · simp at h0
    · have hc := hr.cells (g := g) rfl
      have e0 := hc 0 _ rfl
      have e1 := hc 1 _ rfl
      have e2 := hc 2 _ rfl
      rw [add_off] at e0 e1 e2
      exact vlies_one gP g gm L c ad ln wb write w c0 e0 e1 e2 hL (hx ⟨ad, ln, wb⟩ (List.mem_singleton.2 rfl))
  · have e : vLies L l write = false := by
      unfold vLies
      split
      · exact (h1 rfl).elim
      · rfl
    rw [hv, e]
    exact vlies_other gP l.length cap A write w h1 hlen

/-! ### plain -/
theorem vPiece_lies (M : List UInt8) (l : List VBuf) (k : Nat) (write : Bool) : vPiece M l k write = (vLies M.length l write && match l with | [x] => decide (k ≤ x.len) | _ => false) := by
  rcases l with _ | ⟨x, _ | ⟨y, l⟩⟩
  · rfl
  · unfold vPiece vLies
    simp only []
    rw [Bool.and_assoc, Bool.and_comm]
  · rfl
theorem vChain_props (M : List UInt8) (b n : Nat) : ∀ (k i : Nat) (acc l : List VBuf), vChain M b n k i acc = some l → (∀ x ∈ acc, x.addr ≤ 4611686018427387904 ∧ x.len < 4294967296) → acc.length ≤ n → i < n ∧ 1 ≤ l.length ∧ l.length ≤ n ∧ ∀ x ∈ l, x.addr ≤ 4611686018427387904 ∧ x.len < 4294967296 := by
  intro k
  induction k with
  | zero => intro i acc l h; cases h
  | succ k ih =>
    intro i acc l h ha hl
    rw [vChain_succ] at h
    by_cases h1 : n ≤ i ∨ acc.length = n
    · rw [if_pos h1] at h; cases h
    · rw [if_neg h1] at h
      by_cases h2 : leAt M (b + 16 * i) 8 > 4611686018427387904
      · rw [if_pos h2] at h; cases h
      · rw [if_neg h2] at h
        have ha' : ∀ x ∈ acc ++ [(⟨leAt M (b + 16 * i) 8, leAt M (b + (16 * i + 8)) 4, leAt M (b + (16 * i + 12)) 2 / 2 % 2 == 1⟩ : VBuf)], x.addr ≤ 4611686018427387904 ∧ x.len < 4294967296 := by
          intro x hx
          rcases List.mem_append.1 hx with hx | hx
          · exact ha x hx
          · simp at hx
            subst hx
            exact ⟨by show leAt _ _ _ ≤ _; omega, leAt4 _ _⟩
        have hlen : (acc ++ [(⟨leAt M (b + 16 * i) 8, leAt M (b + (16 * i + 8)) 4, leAt M (b + (16 * i + 12)) 2 / 2 % 2 == 1⟩ : VBuf)]).length ≤ n := by rw [List.length_append, List.length_singleton]; omega
        by_cases h3 : leAt M (b + (16 * i + 12)) 2 % 2 = 0
        · rw [if_pos h3] at h
          injection h with h
          subst h
          exact ⟨by omega, by rw [List.length_append, List.length_singleton]; omega, hlen, ha'⟩
        · rw [if_neg h3] at h
          exact ⟨by omega, (ih _ _ _ h ha' hlen).2⟩
/-- what Take does -/
theorem vTake_cases (M : List UInt8) (b n : Nat) (d : VD) (hd : d.got < 65536) :
    (vTake M b n d = none) ∨ (∃ d', vTake M b n d = some (none, d') ∧ d'.got < 65536 ∧ d'.put = d.put ∧ vTakeLag M b n d' + 1 = vTakeLag M b n d)
      ∨ ∃ h l d', vTake M b n d = some (some (h, l), d') ∧ d'.got < 65536 ∧ d'.put = d.put ∧ vTakeLag M b n d' + 1 = vTakeLag M b n d ∧ h < n ∧ 1 ≤ l.length ∧ l.length ≤ n ∧ ∀ x ∈ l, x.addr ≤ 4611686018427387904 ∧ x.len < 4294967296 := by
  unfold vTake
  by_cases h0 : leAt M (b + (16 * n + 2)) 2 = d.got
  · rw [if_pos h0]
    exact .inl rfl
  · rw [if_neg h0]
    simp only
    rcases hc : vChain M b n (n + 1) (leAt M (b + (16 * n + 4 + 2 * (d.got % n))) 2) [] with _ | l
    · exact .inr (.inl ⟨_, rfl, Nat.mod_lt _ (by decide), rfl, vTakeLag_step hd h0 rfl⟩)
    · obtain ⟨a1, a2, a3, a4⟩ := vChain_props M b n _ _ _ _ hc (by simp) (Nat.zero_le _)
      exact .inr (.inr ⟨_, l, _, rfl, Nat.mod_lt _ (by decide), rfl, vTakeLag_step hd h0 rfl, a1, a2, a3, a4⟩)
theorem vGiveM_len (M : List UInt8) (b n put head len : Nat) (hn : 0 < n) (hb : b + vSize n ≤ M.length) : (vGiveM M b n put head len).length = M.length := by
  have hm : put % n < n := Nat.mod_lt _ hn
  unfold vSize at hb
  unfold vGiveM
  have e1 : (putAt M (b + (18 * n + 4 + 4 + 8 * (put % n))) 4 head).length = M.length := putAt_len (by omega)
  have e2 : (putAt (putAt M (b + (18 * n + 4 + 4 + 8 * (put % n))) 4 head) (b + (18 * n + 4 + 4 + 8 * (put % n) + 4)) 4 len).length = M.length := by rw [putAt_len (by omega), e1]
  rw [putAt_len (by omega), e2]
theorem leAt_giveM {M : List UInt8} {b n put head len q k : Nat} (hn : 0 < n) (hb : b + vSize n ≤ M.length) (ha : q + k ≤ b + (18 * n + 4) ∨ b + vSize n ≤ q) : leAt (vGiveM M b n put head len) q k = leAt M q k := by
  have hm : put % n < n := Nat.mod_lt _ hn
  unfold vSize at hb ha
  unfold vGiveM
  have e1 : (putAt M (b + (18 * n + 4 + 4 + 8 * (put % n))) 4 head).length = M.length := putAt_len (by omega)
  have e2 : (putAt (putAt M (b + (18 * n + 4 + 4 + 8 * (put % n))) 4 head) (b + (18 * n + 4 + 4 + 8 * (put % n) + 4)) 4 len).length = M.length := by rw [putAt_len (by omega), e1]
  rw [leAt_put (by omega) (by omega), leAt_put (by omega) (by omega), leAt_put (by omega) (by omega)]
theorem vTakeLag_giveM {M : List UInt8} {b n put head len : Nat} {d : VD} (hn : 0 < n) (hb : b + vSize n ≤ M.length) : vTakeLag (vGiveM M b n put head len) b n d = vTakeLag M b n d := by
  unfold vTakeLag
  rw [leAt_giveM hn hb (by omega)]
theorem vDeliver_none {b n k : Nat} {f M : List UInt8} {d : VD} (h : vTake M b n d = none) : vDeliver b n f k M d = (7, M, d) := by
  cases k with
  | zero => rfl
  | succ k => rw [vDeliver, h]
theorem vDeliver_skip {b n k : Nat} {f M : List UInt8} {d d' : VD} (h : vTake M b n d = some (none, d')) : vDeliver b n f (k + 1) M d = vDeliver b n f k M d' := by rw [vDeliver, h]
theorem vDeliver_not {b n k hd : Nat} {f M : List UInt8} {d d' : VD} {l : List VBuf} (h : vTake M b n d = some (some (hd, l), d')) (hp : vPiece M l (12 + f.length) true = false) :
    vDeliver b n f (k + 1) M d = vDeliver b n f k (vGiveM M b n d'.put hd 0) d'.give := by
  rw [vDeliver, h]
  simp [hp]
theorem vDeliver_yes {b n k hd : Nat} {f M : List UInt8} {d d' : VD} {x : VBuf} (h : vTake M b n d = some (some (hd, [x]), d')) (hp : vPiece M [x] (12 + f.length) true = true) :
    vDeliver b n f (k + 1) M d = (0, vGiveM (patch M x.addr (vFrame f)) b n d'.put hd (12 + f.length), d'.give) := by
  rw [vDeliver, h]
  simp [hp]
end
section
open Go Go.RowKit
attribute [local go_sem ↓] Go.wp_at_zero Go.wp_at_succ
set_option maxRecDepth 100000
set_option linter.unusedSimpArgs false
set_option linter.unusedVariables false

def DeliverPost (base gm L b n gP : Nat) (f : List UInt8) (M : List UInt8) (pi po : VD) (gdi gdo : Nat) (w : World) (e : Ending) (w' : World) : Prop :=
  e = .returned (.int .i64 (if f.length < 14 ∨ f.length > 1514 then 14 else (vDeliver b n f 65536 M pi).1)) ∧
    PortAt w' base gm L b n gP (if f.length < 14 ∨ f.length > 1514 then M else (vDeliver b n f 65536 M pi).2.1) (if f.length < 14 ∨ f.length > 1514 then pi else (vDeliver b n f 65536 M pi).2.2) po gdi gdo ∧ Frame (fun k => portFoot gP gdi gdo k ∨ k = gm) w w'
theorem vdeliver_bad (base gm L b n gP : Nat) (M : List UInt8) (pi po : VD) (gdi gdo : Nat) (A : Option Addr) (cap : Nat) (f : List UInt8) (w : World) (h : PortAt w base gm L b n gP M pi po gdi gdo) (hlen : f.length ≤ 100000) (hbad : f.length < 14 ∨ f.length > 1514) :
    Calls Try.prog 19 #[.pointer (some ⟨gP, 0, none⟩), .slice A f.length cap] w (DeliverPost base gm L b n gP f M pi po gdi gdo w) := by
  have HP := hid (show DeliverPost base gm L b n gP f M pi po gdi gdo w (.returned (.int .i64 14)) w from by
    unfold DeliverPost
    rw [if_pos hbad, if_pos hbad, if_pos hbad]
    exact ⟨rfl, h, Frame.refl _ _⟩)
  have HF := hid (fun wy => vframed_any A f.length cap wy (by omega))
  rw [decide_eq_false (show ¬ (14 ≤ f.length ∧ f.length ≤ 1514) by omega)] at HF
  generalize f.length = k at *
  clear h hbad
  go_enter Try.func19, Try.ntmps19
  go_wp2_with (go_at_call 35; refine (HF.out _).mono ?_; rintro e w' ⟨rfl, hw⟩; have hw := hw.symm; subst hw)
  go_ret
  exact HP.out
def DelivInv (base gm L b n gP : Nat) (f : List UInt8) (po : VD) (gdi gdo : Nat) (R : Int × List UInt8 × VD) (w : World) (gk : Nat) (wr : World) : Prop :=
  ∃ M1 d1, PortAt wr base gm L b n gP M1 d1 po gdi gdo ∧ Frame (fun k => portFoot gP gdi gdo k ∨ k = gm) w wr ∧ vDeliver b n f gk M1 d1 = R ∧ vTakeLag M1 b n d1 + 1 ≤ gk
theorem frame_in {w w' : World} {gP gdi gdo gm : Nat} (h : Frame (fun k => k = gdi ∨ k = gm) w w') : Frame (fun k => portFoot gP gdi gdo k ∨ k = gm) w w' := h.weaken (fun _ _ e => e.imp_left (fun e => .inr (.inl e)))
theorem frame_out {w w' : World} {gP gdi gdo gm : Nat} (h : Frame (fun k => k = gdo ∨ k = gm) w w') : Frame (fun k => portFoot gP gdi gdo k ∨ k = gm) w w' := h.weaken (fun _ _ e => e.imp_left (fun e => .inr (.inr e)))
theorem row_some {w : World} {base size n : Nat} {e : TypeId} {v : Value} {xs : List Value} (h : w.ownsRow base e size v n xs) (hn : 1 ≤ n) : ∃ g cap, v = .slice (some ⟨g, 0, none⟩) n cap := by
  rcases h.2 with ⟨_, h0⟩ | ⟨g, cap, cur, rfl, _⟩
  · omega
  · exact ⟨g, cap, rfl⟩
set_option maxHeartbeats 8000000 in
theorem vdeliver_good (base gm L b n gP : Nat) (M : List UInt8) (pi po : VD) (gdi gdo : Nat) (A : Option Addr) (cap : Nat) (f : List UInt8) (w : World) (h : PortAt w base gm L b n gP M pi po gdi gdo) (hfit : vFits L (b : Int) (n : Int) = true) (hL : L ≤ 1000000)
    (hf : ∀ w', Frame (fun k => portFoot gP gdi gdo k ∨ k = gm) w w' → Bs w' (.slice A f.length cap) f) (hlo : 14 ≤ f.length) (hhi : f.length ≤ 1514) :
    Calls Try.prog 19 #[.pointer (some ⟨gP, 0, none⟩), .slice A f.length cap] w (DeliverPost base gm L b n gP f M pi po gdi gdo w) := by
  obtain ⟨hok, hfb⟩ := fits_parts hfit
  have hn := okN_le hok
  have HF := hid (fun wy => vframed_any A f.length cap wy (by omega))
  rw [decide_eq_true (show 14 ≤ f.length ∧ f.length ≤ 1514 from ⟨hlo, hhi⟩)] at HF
  have Hok := hid hok
  have HFr := hid hf
  have HA := hid (And.intro hfit hfb)
  unfold DeliverPost
  rw [if_neg (by omega), if_neg (by omega), if_neg (by omega)]
  obtain ⟨R, hR⟩ : ∃ R, vDeliver b n f 65536 M pi = R := ⟨_, rfl⟩
  have H0 := hid (show DelivInv base gm L b n gP f po gdi gdo R w 65536 w from ⟨M, pi, h, Frame.refl _ _, hR, vTakeLag_lt M b n pi⟩)
  rw [hR]
  obtain ⟨l, hl⟩ : ∃ l, f.length = l := ⟨_, rfl⟩
  have Hl := hid hl
  rw [hl] at HF HFr hlo hhi ⊢
  obtain ⟨k12, hk⟩ : ∃ k, 12 + l = k := ⟨_, rfl⟩
  have hkI : (12 : Int) + (l : Int) = (k12 : Int) := by omega
  have hk12 : k12 ≤ 1526 := by omega
  have Hk := hid hk
  clear h hok hf hl hR hfit hfb hk
  go_enter Try.func19, Try.ntmps19
  go_wp2_with (go_at_call 35; refine (HF.out _).mono ?_; rintro e w' ⟨rfl, hw⟩; have hw := hw.symm; subst hw)
  go_loopg [6, 7, 8, 9] 65536 (fun gk _ _ _ _ wr => DelivInv base gm L b n gP f po gdi gdo R w gk wr)
  case atStart => exact H0.out
  case round =>
    obtain ⟨M1, d1, hA, hfr, hR, hlag⟩ := hrel
    have A1 := hid hA
    have F1 := hid hfr
    have R1 := hid hR
    have Hlag := hid hlag
    obtain ⟨k, rfl⟩ : ∃ k, gk = k + 1 := ⟨gk - 1, by omega⟩
    have HT := hid (vtake_at base gm b n gdi d1 M1 wr A1.out.di A1.out.mem Hok.out (by rw [A1.out.len]; have := HA.out.2; omega))
    have c1 : wr.cell? ⟨gP, 1, none⟩ = some (.pointer (some ⟨gdi, 0, none⟩)) := A1.out.tab.cell 1
    clear hA hfr hR hlag
    rcases vTake_cases M1 b n d1 A1.out.di.got with hu | ⟨d2, hu, hg2, hp2, hl2⟩ | ⟨hd, bl, d2, hu, hg2, hp2, hl2, hdn, hb1, hbn, hbx⟩
    · rw [hu] at HT
      have e : R = (7, M1, d1) := by rw [← R1.out]; exact vDeliver_none hu
      have He := hid e
      clear hu e
      go_wp2_with (go_at_call 44; refine HT.out.mono ?_; rintro e w2 ⟨⟨rfl, hd2⟩, hf2⟩; have D2 := hid hd2; have F2 := hid hf2; clear hd2 hf2)
      go_ret
      rw [He.out]
      have f2 : Frame (fun k => k = gdi ∨ k = gm) wr w2 := F2.out.weaken (fun _ _ e => .inl e)
      exact ⟨rfl, A1.out.in_ f2 D2.out (A1.out.mem.frame F2.out (fun e => A1.out.nm (.inr (.inl e)))) A1.out.len, F1.out.trans (frame_in f2) (fun _ _ e => e)⟩
    · rw [hu] at HT
      have HR2 := hid (show vDeliver b n f k M1 d2 = R by rw [← R1.out]; exact (vDeliver_skip hu).symm)
      have Hl2 := hid hl2
      clear hu hl2 hp2
      go_wp2_with (go_at_call 44; refine HT.out.mono ?_; rintro e w2 ⟨⟨rfl, hd2⟩, hf2⟩; have D2 := hid hd2; have F2 := hid hf2; clear hd2 hf2)
      go_roundg k
      case measure => omega
      case rel =>
        have f2 : Frame (fun k => k = gdi ∨ k = gm) wr w2 := F2.out.weaken (fun _ _ e => .inl e)
        exact ⟨M1, d2, A1.out.in_ f2 D2.out (A1.out.mem.frame F2.out (fun e => A1.out.nm (.inr (.inl e)))) A1.out.len, F1.out.trans (frame_in f2) (fun _ _ e => e), HR2.out, by have := Hlag.out; have := Hl2.out; omega⟩
    · rw [hu] at HT
      have HGi := hid (fun (wy : World) (Mx : List UInt8) (len : Nat) (hy : PortAt wy base gm L b n gP Mx d2 po gdi gdo) (hlen : len < 4294967296) => vgive_at base gm b n gdi hd len d2 Mx wy hy.di hy.mem Hok.out (by rw [hy.len]; have := HA.out.2; omega) hdn hlen)
      have Hl2 := hid hl2
      have Hb := hid (And.intro hb1 (And.intro hbn hbx))
      have hdb : hd ≤ 256 := by omega
      -- what comes behind a chain that is given back at once
      have HBack := hid (fun (hp : vPiece M1 bl (12 + f.length) true = false) (w2 w3 w4 : World) (f2 : Frame (fun k => k = gdi ∨ k = gm) wr w2) (A2 : PortAt w2 base gm L b n gP M1 d2 po gdi gdo) (hb3 : Below w2.heap.size w2 w3) (f4 : Frame (fun k => k = gdi ∨ k = gm) w3 w4) (d4 : DevAt w4 base gm b n gdi d2.give) (m4 : MemAt w4 gm (vGiveM M1 b n d2.put hd 0)) =>
        show DelivInv base gm L b n gP f po gdi gdo R w k w4 from
          have hbl : b + vSize n ≤ M1.length := by rw [A1.out.len]; have := HA.out.2; omega
          ⟨_, _, (A2.keep hb3).in_ f4 d4 m4 (by rw [vGiveM_len _ _ _ _ _ _ (by omega) hbl, A1.out.len]), ((F1.out.trans (frame_in f2) (fun _ _ e => e)).trans (Below.frameF hb3 _) (fun _ _ e => e)).trans (frame_in f4) (fun _ _ e => e), by rw [← R1.out]; exact (vDeliver_not hu hp).symm,
            by rw [vTakeLag_giveM (by omega) hbl]; show vTakeLag M1 b n d2 + 1 ≤ k; have := Hlag.out; have := Hl2.out; omega⟩)
      by_cases hli : vLies L bl true = true
      · obtain ⟨x, rfl⟩ : ∃ x, bl = [x] := by
          rcases bl with _ | ⟨x, _ | ⟨y, bl⟩⟩
          · cases hli
          · exact ⟨x, rfl⟩
          · cases hli
        obtain ⟨ad, ln, wb⟩ := x
        have hli2 : (wb == true) = true ∧ ad + ln ≤ L := by
          unfold vLies at hli
          simp only [Bool.and_eq_true, decide_eq_true_eq] at hli
          exact hli
        by_cases hln : ln < k12
        · have hlnI : (ln : Int) < (k12 : Int) := by omega
          have Hpc := hid (show vPiece M1 [⟨ad, ln, wb⟩] (12 + f.length) true = false by
            show (decide (12 + f.length ≤ ln) && wb == true && decide (ad + ln ≤ M1.length)) = false
            rw [decide_eq_false (by rw [Hl.out, Hk.out]; omega)]
            rfl)
          have Hli := hid hli
          clear hli hli2 hu hl2 hp2 hb1 hbn hbx hln
          go_wp2_with (first
            | (go_at_call 44; refine HT.out.mono ?_; rintro e w2 ⟨⟨v, rfl, hrow, hd2⟩, hf2⟩; obtain ⟨gv, cv, rfl⟩ := row_some hrow (Nat.le_refl 1); have r1 := hrow.cells (g := gv) rfl 1 _ rfl; have f2 := hid (show Frame (fun k => k = gdi ∨ k = gm) wr w2 from hf2.weaken (fun _ _ e => .inl e)); have A2 := hid (A1.out.in_ f2.out hd2 (A1.out.mem.frame hf2 (fun e => A1.out.nm (.inr (.inl e)))) A1.out.len); have HLi := hid (vlies_at w.heap.size gP gm L [⟨ad, ln, wb⟩] _ true w2 (A2.out.tab.cell 0) (own_mono hrow (F1.out.size)) hL (by simp) (fun x hx => (Hb.out.2.2 x hx).2)); rw [Hli.out] at HLi; clear hrow hd2 hf2)
            | (go_at_call 45; refine HLi.out.mono ?_; rintro e w3 ⟨rfl, q, rfl⟩; have b3 := hid (below_drewN (Below.refl w2.heap.size w2) q); have r1 := cell_below b3.out r1; have c1 := cell_below b3.out (show w2.cell? ⟨gP, 1, none⟩ = some (.pointer (some ⟨gdi, 0, none⟩)) from A2.out.tab.cell 1); rw [add_off] at r1)
            | (go_at_call 46; refine (show Calls Try.prog 46 #[.pointer (some ⟨gdi, 0, none⟩), .int .i64 (hd : Int), .int .i64 0] (w2.drewN q) _ from HGi.out (w2.drewN q) M1 0 (A2.out.keep b3.out) (by decide)).mono ?_; rintro e w4 ⟨rfl, hd4, hm4, hf4⟩; have D4 := hid hd4; have M4 := hid hm4; have F4 := hid hf4; clear hd4 hm4 hf4))
          go_roundg k
          case measure => omega
          case rel => exact HBack.out Hpc.out w2 _ w4 f2.out A2.out b3.out F4.out D4.out M4.out
        · have hlnI : ¬ (ln : Int) < (k12 : Int) := by omega
          have Hpc := hid (show vPiece M1 [⟨ad, ln, wb⟩] (12 + f.length) true = true by
            show (decide (12 + f.length ≤ ln) && wb == true && decide (ad + ln ≤ M1.length)) = true
            rw [decide_eq_true (by rw [Hl.out, Hk.out]; omega), hli2.1, decide_eq_true (by rw [A1.out.len]; exact hli2.2)]
            rfl)
          have HR2 := hid (show R = _ from R1.out.symm.trans (vDeliver_yes hu Hpc.out))
          have Hli := hid hli
          have hadL : ad + k12 ≤ L := by have := hli2.2; omega
          have HadL := hid hadL
          have hadb : ad ≤ 1000000 := by omega
          obtain ⟨ii, hif, hz, hss, hbyy⟩ := info_parts u8info
          have hcut1 := run_cut (P := Try.prog) (T := 25) Try.underlying25 hif (some ⟨gm, 0, none⟩) L L .i64 .i64 (ad : Int) ((ad : Int) + 12) ad 12 rfl rfl (by omega)
          have hcut2 := run_cut_from (P := Try.prog) (T := 25) Try.underlying25 hif (some ⟨gm, 0, none⟩) L L .i64 ((ad : Int) + 12) (ad + 12) (L - (ad + 12)) (by omega) (by omega) (Nat.le_refl _)
          rw [hss, cutA_at gm 0 L _ (by omega), Nat.zero_add] at hcut1 hcut2
          clear hli hli2 hu hl2 hp2 hb1 hbn hbx hln hif hz hss hbyy hadL HBack
          go_upto_region 13 with (first
            | (go_at_call 44; refine HT.out.mono ?_; rintro e w2 ⟨⟨v, rfl, hrow, hd2⟩, hf2⟩; obtain ⟨gv, cv, rfl⟩ := row_some hrow (Nat.le_refl 1); have r0 := hrow.cells (g := gv) rfl 0 _ rfl; have r1 := hrow.cells (g := gv) rfl 1 _ rfl; have f2 := hid (show Frame (fun k => k = gdi ∨ k = gm) wr w2 from hf2.weaken (fun _ _ e => .inl e)); have A2 := hid (A1.out.in_ f2.out hd2 (A1.out.mem.frame hf2 (fun e => A1.out.nm (.inr (.inl e)))) A1.out.len); have HLi := hid (vlies_at w.heap.size gP gm L [⟨ad, ln, wb⟩] _ true w2 (A2.out.tab.cell 0) (own_mono hrow (F1.out.size)) hL (by simp) (fun x hx => (Hb.out.2.2 x hx).2)); rw [Hli.out] at HLi; clear hrow hd2 hf2)
            | (go_at_call 45; refine HLi.out.mono ?_; rintro e w3 ⟨rfl, q, rfl⟩; have b3 := hid (below_drewN (Below.refl w2.heap.size w2) q); have r0 := cell_below b3.out r0; have r1 := cell_below b3.out r1; have c0 := cell_below b3.out (show w2.cell? ⟨gP, 0, none⟩ = some (.slice (some ⟨gm, 0, none⟩) L L) from A2.out.tab.cell 0); have A3 := hid (A2.out.keep b3.out); rw [add_off] at r0 r1)
            | ((with_reducible show wpList _ _ _ (Oper.mk (some 67) _ _ _ _ _ :: _) _ _); refine wpList_copyBs rfl _ _ 25 rfl 5 u8ok gm (ad + 12) (L - (ad + 12)) (L - (ad + 12)) rfl _ f rfl (HFr.out _ (((F1.out.trans (frame_in f2.out) (fun _ _ e => e)).trans (Below.frameF b3.out _) (fun _ _ e => e)).trans (frame_mem G4.out) (fun _ _ e => .inr e))) _ 5 M4.out (by rw [List.length_map, patch_len (by rw [zeros_len, A1.out.len]; have := HadL.out; omega), A1.out.len]; have := HadL.out; omega) ?_; intro w5 hblk hg5 hsz5; have B5 := hid hblk; have G5 := hid hg5; clear hblk hg5 hsz5)
            | ((with_reducible show wpList _ _ _ (Oper.mk none _ _ _ _ _ :: _) _ _); refine wpList_clearM rfl _ rfl gm M1 ad 12 (L - ad) rfl (by decide) A3.out.mem (by rw [A1.out.len]; have := HadL.out; omega) ?_; intro w4 hm4 hg4; have M4 := hid hm4; have G4 := hid hg4; have c0 := cell_frame (frame_mem hg4) c0 (fun e => A1.out.nm (.inl e.symm)); clear hm4 hg4)
            | fail)
          have M5 := hid (show MemAt w5 gm (patch M1 ad (vFrame f)) from by
            have h4 := B5.out
            have hft : f.take (L - (ad + 12)) = f := List.take_of_length_le (by rw [Hl.out]; have := HadL.out; have := Hk.out; omega)
            rw [hft, show ad + 12 = ad + (zeros 12).length from rfl, patch_map, patch_patch (by rw [List.length_append, zeros_len, Hl.out, A1.out.len]; have := HadL.out; have := Hk.out; omega)] at h4
            exact h4)
          have hl5 : (patch M1 ad (vFrame f)).length = L := by rw [patch_len (by rw [vFrame_len, Hl.out, Hk.out, A1.out.len]; exact HadL.out), A1.out.len]
          have Fm := hid ((frame_mem G4.out).trans (frame_mem G5.out) (fun _ _ e => e))
          have A5 := hid (A3.out.mem_ Fm.out M5.out hl5)
          have HGf := hid (HGi.out w5 _ k12 A5.out (by omega))
          have c1 : w5.cell? ⟨gP, 1, none⟩ = some (.pointer (some ⟨gdi, 0, none⟩)) := A5.out.tab.cell 1
          have Hl5 := hid hl5
          clear hl5 c0 r0 r1
          go_wp2_with (go_at_call 46; refine HGf.out.mono ?_; rintro e w6 ⟨rfl, hd6, hm6, hf6⟩; have D6 := hid hd6; have M6 := hid hm6; have F6 := hid hf6; clear hd6 hm6 hf6)
          go_ret
          rw [HR2.out, Hl.out, Hk.out]
          have hbl : b + vSize n ≤ (patch M1 ad (vFrame f)).length := by rw [Hl5.out]; have := HA.out.2; omega
          refine ⟨rfl, A5.out.in_ F6.out D6.out M6.out (by rw [vGiveM_len _ _ _ _ _ _ (by omega) hbl, Hl5.out]), ?_⟩
          exact (((F1.out.trans (frame_in f2.out) (fun _ _ e => e)).trans (Below.frameF b3.out _) (fun _ _ e => e)).trans Fm.out (fun _ _ e => .inr e)).trans (frame_in F6.out) (fun _ _ e => e)
      · have hli' : vLies L bl true = false := by simpa using hli
        have Hli := hid hli'
        have Hpc := hid (show vPiece M1 bl (12 + f.length) true = false by rw [vPiece_lies, A1.out.len, hli']; rfl)
        clear hli hli' hu hl2 hp2 hb1 hbn hbx
        go_wp2_with (first
          | (go_at_call 44; refine HT.out.mono ?_; rintro e w2 ⟨⟨v, rfl, hrow, hd2⟩, hf2⟩; have f2 := hid (show Frame (fun k => k = gdi ∨ k = gm) wr w2 from hf2.weaken (fun _ _ e => .inl e)); have A2 := hid (A1.out.in_ f2.out hd2 (A1.out.mem.frame hf2 (fun e => A1.out.nm (.inr (.inl e)))) A1.out.len); have HLi := hid (vlies_at w.heap.size gP gm L bl _ true w2 (A2.out.tab.cell 0) (own_mono hrow (F1.out.size)) hL (by have := Hb.out.2.1; omega) (fun x hx => (Hb.out.2.2 x hx).2)); rw [Hli.out] at HLi; clear hrow hd2 hf2)
          | (go_at_call 45; refine HLi.out.mono ?_; rintro e w3 ⟨rfl, q, rfl⟩; have b3 := hid (below_drewN (Below.refl w2.heap.size w2) q); have c1 := cell_below b3.out (show w2.cell? ⟨gP, 1, none⟩ = some (.pointer (some ⟨gdi, 0, none⟩)) from A2.out.tab.cell 1))
          | (go_at_call 46; refine (show Calls Try.prog 46 #[.pointer (some ⟨gdi, 0, none⟩), .int .i64 (hd : Int), .int .i64 0] (w2.drewN q) _ from HGi.out (w2.drewN q) M1 0 (A2.out.keep b3.out) (by decide)).mono ?_; rintro e w4 ⟨rfl, hd4, hm4, hf4⟩; have D4 := hid hd4; have M4 := hid hm4; have F4 := hid hf4; clear hd4 hm4 hf4))
        go_roundg k
        case measure => omega
        case rel => exact HBack.out Hpc.out w2 _ w4 f2.out A2.out b3.out F4.out D4.out M4.out
/-- the program's Deliver -/
theorem vdeliver_at (base gm L b n gP : Nat) (M : List UInt8) (pi po : VD) (gdi gdo : Nat) (v : Value) (f : List UInt8) (w : World) (h : PortAt w base gm L b n gP M pi po gdi gdo) (hfit : vFits L (b : Int) (n : Int) = true) (hL : L ≤ 1000000)
    (hf : ∀ w', Frame (fun k => portFoot gP gdi gdo k ∨ k = gm) w w' → Bs w' v f) (hlen : f.length ≤ 100000) :
    Calls Try.prog 19 #[.pointer (some ⟨gP, 0, none⟩), v] w (DeliverPost base gm L b n gP f M pi po gdi gdo w) := by
  obtain ⟨A, cap, rfl⟩ := slice_len (hf w (Frame.refl _ _)) rfl
  by_cases hbad : f.length < 14 ∨ f.length > 1514
  · exact vdeliver_bad base gm L b n gP M pi po gdi gdo A cap f w h hlen hbad
  · exact vdeliver_good base gm L b n gP M pi po gdi gdo A cap f w h hfit hL hf (by omega) (by omega)
end
end Go.Proofs.Ytgiegiobigdplaa
