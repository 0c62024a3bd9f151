/- The program's port: does a chain lie in memory. -/
import Derived.Test.YtgiegiobigdplaaVnQ
namespace Go.Proofs.Ytgiegiobigdplaa
open Go Go.RowKit
attribute [local go_sem ↓] Go.wp_at_zero Go.wp_at_succ
set_option maxRecDepth 100000
set_option linter.unusedSimpArgs false
set_option linter.unusedVariables false

def vLies (L : Nat) (l : List VBuf) (write : Bool) : Bool := match l with
  | [x] => (x.write == write) && decide (x.addr + x.len ≤ L)
  | _ => false
theorem vlies_other (gP k cap : Nat) (A : Option Addr) (write : Bool) (w : World) (hk : k ≠ 1) (hkl : k ≤ 1000) :
    Calls Try.prog 45 #[.pointer (some ⟨gP, 0, none⟩), .slice A k cap, .bool write] w fun e w' => e = .returned (.bool false) ∧ ∃ q, w' = w.drewN q := by
  have hk1 : ((k : Int) == 1) = false := by simp; omega
  have hk2 : ¬ k = 1 := hk
  have hk3 : ¬ (k : Int) = 1 := by omega
  clear hk
  go_enter Try.func45, Try.ntmps45
  go_upto_region 1 with fail
  go_quiet (fail)
  all_goals
    go_wp2_with fail
    go_ret
    exact ⟨rfl, _, rfl⟩
theorem vlies_one (gP g gm L cap ad ln : Nat) (wb write : Bool) (w : World) (c0 : w.cell? ⟨gP, 0, none⟩ = some (.slice (some ⟨gm, 0, none⟩) L L)) (r0 : w.cell? ⟨g, 0, none⟩ = some (.int .i64 (ad : Int))) (r1 : w.cell? ⟨g, 1, none⟩ = some (.int .i64 (ln : Int))) (r2 : w.cell? ⟨g, 2, none⟩ = some (.bool wb))
    (hL : L ≤ 1000000) (hln : ln < 4294967296) :
    Calls Try.prog 45 #[.pointer (some ⟨gP, 0, none⟩), .slice (some ⟨g, 0, none⟩) 1 cap, .bool write] w fun e w' => e = .returned (.bool ((wb == write) && decide (ad + ln ≤ L))) ∧ ∃ q, w' = w.drewN q := by
  have hw : IntKind.i64.wrap ((L : Int) - (ln : Int)) = (L : Int) - (ln : Int) := IntWalk.i64_in _ (by omega)
  obtain ⟨X, hX⟩ : ∃ X, ((wb == write) && decide (ad + ln ≤ L)) = X := ⟨_, rfl⟩
  rw [hX]
  by_cases hwr : wb = write
  · subst hwr
    have hwe : (wb == wb) = true := by simp
    by_cases hle : ad + ln ≤ L
    · have hleI : (ad : Int) ≤ (L : Int) - (ln : Int) := by omega
      have hx : X = true := by rw [← hX]; simp [hle]
      subst hx
      clear hX hle
      go_enter Try.func45, Try.ntmps45
      go_upto_region 1 with fail
      go_quiet (fail)
      all_goals
        go_wp2_with fail
        go_ret
        exact ⟨rfl, _, rfl⟩
    · have hleI : ¬ (ad : Int) ≤ (L : Int) - (ln : Int) := by omega
      have hx : X = false := by rw [← hX]; simp [hle]
      subst hx
      clear hX hle
      go_enter Try.func45, Try.ntmps45
      go_upto_region 1 with fail
      go_quiet (fail)
      all_goals
        go_wp2_with fail
        go_ret
        exact ⟨rfl, _, rfl⟩
  · have hwe : (wb == write) = false := by simpa using hwr
    have hx : X = false := by rw [← hX, hwe]; rfl
    subst hx
    clear hX hwr
    go_enter Try.func45, Try.ntmps45
    go_upto_region 1 with fail
    go_quiet (fail)
    all_goals
      go_wp2_with fail
      go_ret
      exact ⟨rfl, _, rfl⟩
theorem vlies_at (base gP gm L : Nat) (l : List VBuf) (v : Value) (write : Bool) (w : World) (c0 : w.cell? ⟨gP, 0, none⟩ = some (.slice (some ⟨gm, 0, none⟩) L L)) (hr : w.ownsRow base 93 3 v l.length (bufRow l)) (hL : L ≤ 1000000) (hlen : l.length ≤ 1000) (hx : ∀ x ∈ l, x.len < 4294967296) :
    Calls Try.prog 45 #[.pointer (some ⟨gP, 0, none⟩), v, .bool write] w fun e w' => e = .returned (.bool (vLies L l write)) ∧ ∃ q, w' = w.drewN q := by
  obtain ⟨_, A, cap, hv, _, _, _⟩ := RowN.of_own hr
  by_cases h1 : l.length = 1
  · obtain ⟨x, rfl⟩ := List.length_eq_one_iff.1 h1
    obtain ⟨ad, ln, wb⟩ := x
    rcases hr.2 with ⟨_, h0⟩ | ⟨g, c, cur, rfl, _⟩
    · simp at h0
    · have hc := hr.cells (g := g) rfl
      have e0 := hc 0 _ rfl
      have e1 := hc 1 _ rfl
      have e2 := hc 2 _ rfl
      rw [add_off] at e0 e1 e2
      exact vlies_one gP g gm L c ad ln wb write w c0 e0 e1 e2 hL (hx ⟨ad, ln, wb⟩ (List.mem_singleton.2 rfl))
  · have e : vLies L l write = false := by
      unfold vLies
      split
      · exact (h1 rfl).elim
      · rfl
    rw [hv, e]
    exact vlies_other gP l.length cap A write w h1 hlen

/-! ### plain -/
theorem vPiece_lies (M : List UInt8) (l : List VBuf) (k : Nat) (write : Bool) : vPiece M l k write = (vLies M.length l write && match l with | [x] => decide (k ≤ x.len) | _ => false) := by
  rcases l with _ | ⟨x, _ | ⟨y, l⟩⟩
  · rfl
  · unfold vPiece vLies
    simp only []
    rw [Bool.and_assoc, Bool.and_comm]
  · rfl
theorem vChain_props (M : List UInt8) (b n : Nat) : ∀ (k i : Nat) (acc l : List VBuf), vChain M b n k i acc = some l → (∀ x ∈ acc, x.addr ≤ 4611686018427387904 ∧ x.len < 4294967296) → acc.length ≤ n → i < n ∧ 1 ≤ l.length ∧ l.length ≤ n ∧ ∀ x ∈ l, x.addr ≤ 4611686018427387904 ∧ x.len < 4294967296 := by
  intro k
  induction k with
  | zero => intro i acc l h; cases h
  | succ k ih =>
    intro i acc l h ha hl
    rw [vChain_succ] at h
    by_cases h1 : n ≤ i ∨ acc.length = n
    · rw [if_pos h1] at h; cases h
    · rw [if_neg h1] at h
      by_cases h2 : leAt M (b + 16 * i) 8 > 4611686018427387904
      · rw [if_pos h2] at h; cases h
      · rw [if_neg h2] at h
        have ha' : ∀ x ∈ acc ++ [(⟨leAt M (b + 16 * i) 8, leAt M (b + (16 * i + 8)) 4, leAt M (b + (16 * i + 12)) 2 / 2 % 2 == 1⟩ : VBuf)], x.addr ≤ 4611686018427387904 ∧ x.len < 4294967296 := by
          intro x hx
          rcases List.mem_append.1 hx with hx | hx
          · exact ha x hx
          · simp at hx
            subst hx
            exact ⟨by show leAt _ _ _ ≤ _; omega, leAt4 _ _⟩
        have hlen : (acc ++ [(⟨leAt M (b + 16 * i) 8, leAt M (b + (16 * i + 8)) 4, leAt M (b + (16 * i + 12)) 2 / 2 % 2 == 1⟩ : VBuf)]).length ≤ n := by rw [List.length_append, List.length_singleton]; omega
        by_cases h3 : leAt M (b + (16 * i + 12)) 2 % 2 = 0
        · rw [if_pos h3] at h
          injection h with h
          subst h
          exact ⟨by omega, by rw [List.length_append, List.length_singleton]; omega, hlen, ha'⟩
        · rw [if_neg h3] at h
          exact ⟨by omega, (ih _ _ _ h ha' hlen).2⟩
/-- what Take does -/
theorem vTake_cases (M : List UInt8) (b n : Nat) (d : VD) (hd : d.got < 65536) :
    (vTake M b n d = none) ∨ (∃ d', vTake M b n d = some (none, d') ∧ d'.got < 65536 ∧ d'.put = d.put ∧ vTakeLag M b n d' + 1 = vTakeLag M b n d)
      ∨ ∃ h l d', vTake M b n d = some (some (h, l), d') ∧ d'.got < 65536 ∧ d'.put = d.put ∧ vTakeLag M b n d' + 1 = vTakeLag M b n d ∧ h < n ∧ 1 ≤ l.length ∧ l.length ≤ n ∧ ∀ x ∈ l, x.addr ≤ 4611686018427387904 ∧ x.len < 4294967296 := by
  unfold vTake
  by_cases h0 : leAt M (b + (16 * n + 2)) 2 = d.got
  · rw [if_pos h0]
    exact .inl rfl
  · rw [if_neg h0]
    simp only
    rcases hc : vChain M b n (n + 1) (leAt M (b + (16 * n + 4 + 2 * (d.got % n))) 2) [] with _ | l
    · exact .inr (.inl ⟨_, rfl, Nat.mod_lt _ (by decide), rfl, vTakeLag_step hd h0 rfl⟩)
    · obtain ⟨a1, a2, a3, a4⟩ := vChain_props M b n _ _ _ _ hc (by simp) (Nat.zero_le _)
      exact .inr (.inr ⟨_, l, _, rfl, Nat.mod_lt _ (by decide), rfl, vTakeLag_step hd h0 rfl, a1, a2, a3, a4⟩)
theorem vGiveM_len (M : List UInt8) (b n put head len : Nat) (hn : 0 < n) (hb : b + vSize n ≤ M.length) : (vGiveM M b n put head len).length = M.length := by
  have hm : put % n < n := Nat.mod_lt _ hn
  unfold vSize at hb
  unfold vGiveM
  have e1 : (putAt M (b + (18 * n + 4 + 4 + 8 * (put % n))) 4 head).length = M.length := putAt_len (by omega)
  have e2 : (putAt (putAt M (b + (18 * n + 4 + 4 + 8 * (put % n))) 4 head) (b + (18 * n + 4 + 4 + 8 * (put % n) + 4)) 4 len).length = M.length := by rw [putAt_len (by omega), e1]
  rw [putAt_len (by omega), e2]
theorem leAt_giveM {M : List UInt8} {b n put head len q k : Nat} (hn : 0 < n) (hb : b + vSize n ≤ M.length) (ha : q + k ≤ b + (18 * n + 4) ∨ b + vSize n ≤ q) : leAt (vGiveM M b n put head len) q k = leAt M q k := by
  have hm : put % n < n := Nat.mod_lt _ hn
  unfold vSize at hb ha
  unfold vGiveM
  have e1 : (putAt M (b + (18 * n + 4 + 4 + 8 * (put % n))) 4 head).length = M.length := putAt_len (by omega)
  have e2 : (putAt (putAt M (b + (18 * n + 4 + 4 + 8 * (put % n))) 4 head) (b + (18 * n + 4 + 4 + 8 * (put % n) + 4)) 4 len).length = M.length := by rw [putAt_len (by omega), e1]
  rw [leAt_put (by omega) (by omega), leAt_put (by omega) (by omega), leAt_put (by omega) (by omega)]
theorem vTakeLag_giveM {M : List UInt8} {b n put head len : Nat} {d : VD} (hn : 0 < n) (hb : b + vSize n ≤ M.length) : vTakeLag (vGiveM M b n put head len) b n d = vTakeLag M b n d := by
  unfold vTakeLag
  rw [leAt_giveM hn hb (by omega)]
theorem vDeliver_none {b n k : Nat} {f M : List UInt8} {d : VD} (h : vTake M b n d = none) : vDeliver b n f k M d = (7, M, d) := by
  cases k with
  | zero => rfl
  | succ k => rw [vDeliver, h]
theorem vDeliver_skip {b n k : Nat} {f M : List UInt8} {d d' : VD} (h : vTake M b n d = some (none, d')) : vDeliver b n f (k + 1) M d = vDeliver b n f k M d' := by rw [vDeliver, h]
theorem vDeliver_not {b n k hd : Nat} {f M : List UInt8} {d d' : VD} {l : List VBuf} (h : vTake M b n d = some (some (hd, l), d')) (hp : vPiece M l (12 + f.length) true = false) :
    vDeliver b n f (k + 1) M d = vDeliver b n f k (vGiveM M b n d'.put hd 0) d'.give := by
  rw [vDeliver, h]
  simp [hp]
theorem vDeliver_yes {b n k hd : Nat} {f M : List UInt8} {d d' : VD} {x : VBuf} (h : vTake M b n d = some (some (hd, [x]), d')) (hp : vPiece M [x] (12 + f.length) true = true) :
    vDeliver b n f (k + 1) M d = (0, vGiveM (patch M x.addr (vFrame f)) b n d'.put hd (12 + f.length), d'.give) := by
  rw [vDeliver, h]
  simp [hp]
end Go.Proofs.Ytgiegiobigdplaa
