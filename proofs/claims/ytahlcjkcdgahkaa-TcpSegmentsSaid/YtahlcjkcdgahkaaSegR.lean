/- Contract of the document's options. -/
import Derived.Test.YtahlcjkcdgahkaaSegB
import Derived.Deep.LoopGhost
namespace Go.Proofs.Ytahlcjkcdgahkaa
open Go Go.RowKit
attribute [local go_sem ↓] Go.wp_at_zero Go.wp_at_succ
set_option maxRecDepth 100000

/-- the answer of the document's options -/
def optAnsR (R : Option Nat) : Value := match R with | some m => .tuple #[.int .i64 (m : Int), .bool true] | none => .tuple #[.int .i64 0, .bool false]
set_option maxHeartbeats 4000000 in
theorem ropts_any (v : Value) (b : List UInt8) (w : World) (h : Bs w v b) (hl : b.length ≤ 1000000000) (R : Option Nat) (hR : segOpts b.length b 0 0 = R) :
    Calls Try.prog 59 #[v] w fun e w' => e = .returned (optAnsR R) ∧ w' = w := by
  have Hb := hid h
  obtain ⟨L, hL⟩ : ∃ n, b.length = n := ⟨_, rfl⟩
  obtain ⟨A, cap, rfl⟩ := slice_len h hL
  have HL := hid hL
  rw [hL] at hR hl
  have HR := hid hR
  clear h hL hR
  go_enter Try.func59, Try.ntmps59
  go_wp2_with fail
  go_loopg [4, 5] L (fun gk s4 s5 wr => ∃ i mss g : Nat, gk = L - i ∧ s4 = .int .i64 (mss : Int) ∧ s5 = .int .i64 (i : Int) ∧ wr = w ∧ L ≤ i + g ∧ segOpts g b i mss = R ∧ i ≤ L ∧ mss < 65536)
  case atStart => exact ⟨0, 0, L, rfl, rfl, rfl, rfl, by omega, HR.out, by omega, by omega⟩
  case round =>
    obtain ⟨i, mss, g, rfl, rfl, rfl, rfl, hi, hseg, hil, hms⟩ := hrel
    by_cases hlt : i < L
    case neg =>
      have t1 : ¬ (i : Int) < (L : Int) := by omega
      rw [segOpts_end (by rw [HL.out]; omega)] at hseg
      have Hs := hid hseg.symm
      clear hlt hseg
      go_wp2_with fail
      go_ret2
      exact ⟨by rw [Hs.out]; rfl, rfl⟩
    case pos =>
    have t1 : (i : Int) < (L : Int) := by omega
    have hib : i < b.length := by rw [HL.out]; exact hlt
    obtain ⟨g1, rfl⟩ : ∃ g1, g = g1 + 1 := ⟨g - 1, by omega⟩
    obtain ⟨A0, o0, rfl, hc0⟩ := cell_of Hb.out hib
    obtain ⟨x, hx⟩ : ∃ x, b[i].toNat = x := ⟨_, rfl⟩
    have hx2 : x < 256 := by rw [← hx]; exact b[i].toNat_lt
    have hgi : (b.getD i 0).toNat = x := by rw [List.getD_eq_getElem?_getD, List.getElem?_eq_getElem hib, Option.getD_some]; exact hx
    rw [hx] at hc0
    unfold segOpts at hseg
    rw [hgi, HL.out] at hseg
    have Hseg := hid hseg
    clear hseg hx hgi
    by_cases hx0 : x = 0
    · subst hx0
      have Hs := hid (show R = some mss from by have := Hseg.out; rw [if_pos (.inr rfl)] at this; exact this.symm)
      go_wp2_with fail
      go_ret2
      exact ⟨by rw [Hs.out]; rfl, rfl⟩
    have hxb : ((x : Int) == 0) = false := by simp; omega
    have Hs1 := hid (show (if x = 1 then segOpts g1 b (i + 1) mss else if L ≤ i + 1 then none else if (b.getD (i + 1) 0).toNat < 2 ∨ L < i + (b.getD (i + 1) 0).toNat ∨ (x = 2 ∧ (b.getD (i + 1) 0).toNat ≠ 4) then none else segOpts g1 b (i + (b.getD (i + 1) 0).toNat) (if x = 2 then sAt b (i + 2) 2 else mss)) = R from by have := Hseg.out; rw [if_neg (by omega)] at this; exact this)
    clear Hseg
    by_cases hx1 : x = 1
    · subst hx1
      have Hs := hid (show segOpts g1 b (i + 1) mss = R from by have := Hs1.out; rw [if_pos rfl] at this; exact this)
      clear Hs1
      go_wp2_with fail
      go_roundg (L - (i + 1))
      case measure => omega
      case rel => exact ⟨i + 1, mss, g1, rfl, rfl, rfl, rfl, by omega, Hs.out, by omega, hms⟩
    have hxb1 : ((x : Int) == 1) = false := by simp; omega
    have Hs2 := hid (by have := Hs1.out; rw [if_neg hx1] at this; exact this)
    clear Hs1
    by_cases hl1 : L ≤ i + 1
    · have t2 : (i : Int) + 1 ≥ (L : Int) := by omega
      have Hs := hid (show R = none from by have := Hs2.out; rw [if_pos hl1] at this; exact this.symm)
      clear Hs2
      go_wp2_with fail
      go_ret2
      exact ⟨by rw [Hs.out]; rfl, rfl⟩
    have t2 : ¬ (i : Int) + 1 ≥ (L : Int) := by omega
    have hib1 : i + 1 < b.length := by rw [HL.out]; omega
    obtain ⟨A9, o9, e9, hc1⟩ := cell_of Hb.out hib1
    injection e9 with e9
    injection e9 with e91 e92
    subst e91; subst e92
    obtain ⟨y, hy⟩ : ∃ y, b[i + 1].toNat = y := ⟨_, rfl⟩
    have hy2 : y < 256 := by rw [← hy]; exact b[i + 1].toNat_lt
    have hgi : (b.getD (i + 1) 0).toNat = y := by rw [List.getD_eq_getElem?_getD, List.getElem?_eq_getElem hib1, Option.getD_some]; exact hy
    rw [hy] at hc1
    have Hs3 := hid (by have := Hs2.out; rw [if_neg hl1, hgi] at this; exact this)
    clear Hs2 hgi hy
    by_cases hy0 : y < 2
    · have t3 : (y : Int) < 2 := by omega
      have Hs := hid (show R = none from by have := Hs3.out; rw [if_pos (.inl hy0)] at this; exact this.symm)
      clear Hs3
      go_wp2_with fail
      go_ret2
      exact ⟨by rw [Hs.out]; rfl, rfl⟩
    have t3 : ¬ (y : Int) < 2 := by omega
    by_cases hy1 : L < i + y
    · have t4 : (y : Int) > (L : Int) - (i : Int) := by omega
      have Hs := hid (show R = none from by have := Hs3.out; rw [if_pos (.inr (.inl hy1))] at this; exact this.symm)
      clear Hs3
      go_wp2_with fail
      go_ret2
      exact ⟨by rw [Hs.out]; rfl, rfl⟩
    have t4 : ¬ (y : Int) > (L : Int) - (i : Int) := by omega
    by_cases hx2 : x = 2
    · subst hx2
      by_cases hy4 : y = 4
      · subst hy4
        obtain ⟨m2, hm2⟩ : ∃ m, sAt b (i + 2) 2 = m := ⟨_, rfl⟩
        have hm3 : m2 < 65536 := by rw [← hm2]; exact sAt_lt b (i + 2) 2
        have Hs := hid (show segOpts g1 b (i + 4) m2 = R from by have := Hs3.out; rw [if_neg (by omega), if_pos rfl, hm2] at this; exact this)
        have HT := hid (rtat_any _ b (i + 2) 2 m2 ((i : Int) + 2) 2 wr Hb.out (by omega) rfl (.inl rfl) (by rw [HL.out]; omega) hm2 (by rw [HL.out]; omega))
        clear Hs3
        go_wp2_with (go_at_call 60; refine HT.out.mono ?_; rintro e w' ⟨rfl, rfl⟩)
        go_roundg (L - (i + 4))
        case measure => omega
        case rel => exact ⟨i + 4, m2, g1, rfl, rfl, rfl, rfl, by omega, Hs.out, by omega, hm3⟩
      · have t5 : ((y : Int) == 4) = false := by simp; omega
        have Hs := hid (show R = none from by have := Hs3.out; rw [if_pos (.inr (.inr ⟨rfl, hy4⟩))] at this; exact this.symm)
        clear Hs3
        go_wp2_with fail
        go_ret2
        exact ⟨by rw [Hs.out]; rfl, rfl⟩
    · have t5 : ((x : Int) == 2) = false := by simp; omega
      have Hs := hid (show segOpts g1 b (i + y) mss = R from by have := Hs3.out; rw [if_neg (by omega), if_neg hx2] at this; exact this)
      clear Hs3
      go_wp2_with fail
      go_roundg (L - (i + y))
      case measure => omega
      case rel => exact ⟨i + y, mss, g1, rfl, rfl, rfl, rfl, by omega, Hs.out, by omega, hms⟩
end Go.Proofs.Ytahlcjkcdgahkaa
