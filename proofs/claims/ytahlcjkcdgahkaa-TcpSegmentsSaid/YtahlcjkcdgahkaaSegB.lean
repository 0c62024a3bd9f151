/- Contract of tcp's options. -/
import Derived.Test.YtahlcjkcdgahkaaSegA
import Derived.WalkMore
import Derived.ScopeJumps
namespace Go.Proofs.Ytahlcjkcdgahkaa
open Go Go.RowKit
attribute [local go_sem ↓] Go.wp_at_zero Go.wp_at_succ
set_option maxRecDepth 100000

/-- the answer of options -/
def optAns (R : Option Nat) : Value := match R with | some m => .tuple #[.int .i64 (m : Int), .int .i64 0] | none => .tuple #[.int .i64 0, .int .i64 15]
theorem segOpts_end {g : Nat} {b : List UInt8} {i mss : Nat} (h : b.length ≤ i) : segOpts g b i mss = some mss := by
  cases g with
  | zero => rfl
  | succ g => unfold segOpts; rw [if_pos (.inl h)]
theorem cell_of {w : World} {A : Option Addr} {n cap i : Nat} {b : List UInt8} (h : Bs w (.slice A n cap) b) (hi : i < b.length) : ∃ k o, A = some ⟨k, o, none⟩ ∧ w.cell? ⟨k, o + i, none⟩ = some (.int .u8 (b[i].toNat : Int)) := by
  obtain ⟨A1, cap1, hv, _, _, hc⟩ := h.cells
  injection hv with e1 _ _
  obtain ⟨k, o, hA, hc⟩ := hc i hi
  exact ⟨k, o, e1.trans hA, hc⟩
/-- where options goes on -/
def OptAt (w : World) (v : Value) (b : List UInt8) (R : Option Nat) (a : Act) (wr : World) : Prop :=
  wr = w ∧ ∃ (i mss g : Nat) (u2 u3 u6 u7 u8 u9 u10 u11 u12 u13 u14 u15 u16 u17 u18 u19 u20 u21 u22 u23 u24 u25 u26 u27 u28 u29 u30 u31 u32 u33 u34 u35 u36 u37 u38 u39 u40 u41 u42 u43 u44 u45 u46 u47 u48 u49 u50 u51 u52 u53 u54 u55 u56 u57 u58 u59 u60 u61 u62 u63 u64 u65 u66 u67 u68 u69 : Value), a = { tmps := #[v, undef, u2, u3, .int .i64 (mss : Int), .int .i64 (i : Int), u6, u7, u8, u9, u10, u11, u12, u13, u14, u15, u16, u17, u18, u19, u20, u21, u22, u23, u24, u25, u26, u27, u28, u29, u30, u31, u32, u33, u34, u35, u36, u37, u38, u39, u40, u41, u42, u43, u44, u45, u46, u47, u48, u49, u50, u51, u52, u53, u54, u55, u56, u57, u58, u59, u60, u61, u62, u63, u64, u65, u66, u67, u68, u69], defers := [] } ∧ b.length ≤ i + g ∧ segOpts g b i mss = R ∧ i ≤ b.length ∧ mss < 65536
set_option maxHeartbeats 4000000 in
theorem topts_any (v : Value) (b : List UInt8) (w : World) (h : Bs w v b) (hl : b.length ≤ 1000000000) (R : Option Nat) (hR : segOpts b.length b 0 0 = R) :
    Calls Try.prog 54 #[v] w fun e w' => e = .returned (optAns R) ∧ w' = w := by
  have Hb := hid h
  obtain ⟨L, hL⟩ : ∃ n, b.length = n := ⟨_, rfl⟩
  obtain ⟨A, cap, rfl⟩ := slice_len h hL
  have HL := hid hL
  rw [hL] at hR hl
  have HR := hid hR
  clear h hL hR
  go_enter Try.func54, Try.ntmps54
  go_wp2_with fail
  refine wp_scope_jumps 0 (OptAt w (.slice A L cap) b R) (fun a' _ => L - (intOf (a'.tmps.getD 5 undef)).toNat) rfl ?_ ?_
  · go_wp2_with fail
    obtain ⟨i, hi0⟩ : ∃ i : Nat, i = 0 := ⟨0, rfl⟩
    obtain ⟨g, hg0⟩ : ∃ g : Nat, g = L := ⟨L, rfl⟩
    rw [show (Value.int .i64 0) = Value.int .i64 ((i : Nat) : Int) from by rw [hi0]; rfl]
    have hseg : segOpts g b i i = R := by rw [hi0, hg0]; exact HR.out
    have hi : L ≤ i + g := by omega
    have hil : i ≤ L := by omega
    have hms : i < 65536 := by omega
    clear hi0 hg0 HR
    go_step3
    by_cases hlt : i < L
    case neg =>
      have t1 : (i : Int) ≥ (L : Int) := by omega
      rw [segOpts_end (by rw [HL.out]; omega)] at hseg
      have Hs := hid hseg.symm
      clear hlt hseg
      go_wp2_with fail
      try simp only [Exit.jump]
      go_ret2
      exact ⟨by rw [Hs.out]; rfl, rfl⟩
    case pos =>
    have t1 : ¬ (i : Int) ≥ (L : Int) := by omega
    have hib : i < b.length := by rw [HL.out]; exact hlt
    obtain ⟨g1, rfl⟩ : ∃ g1, g = g1 + 1 := ⟨g - 1, by omega⟩
    obtain ⟨A0, o0, rfl, hc0⟩ := cell_of Hb.out hib
    obtain ⟨x, hx⟩ : ∃ x, b[i].toNat = x := ⟨_, rfl⟩
    have hx2 : x < 256 := by rw [← hx]; exact b[i].toNat_lt
    have hgi : (b.getD i 0).toNat = x := by rw [List.getD_eq_getElem?_getD, List.getElem?_eq_getElem hib, Option.getD_some]; exact hx
    rw [hx] at hc0
    unfold segOpts at hseg
    rw [hgi, HL.out] at hseg
    have Hseg := hid hseg
    clear hseg hx hgi
    by_cases hx0 : x = 0
    · subst hx0
      have Hs := hid (show R = some i from by have := Hseg.out; rw [if_pos (.inr rfl)] at this; exact this.symm)
      go_wp2_with fail
      try simp only [Exit.jump]
      go_ret2
      exact ⟨by rw [Hs.out]; rfl, rfl⟩
    have hxb : ((x : Int) == 0) = false := by simp; omega
    have Hs1 := hid (show (if x = 1 then segOpts g1 b (i + 1) i else if L ≤ i + 1 then none else if (b.getD (i + 1) 0).toNat < 2 ∨ L < i + (b.getD (i + 1) 0).toNat ∨ (x = 2 ∧ (b.getD (i + 1) 0).toNat ≠ 4) then none else segOpts g1 b (i + (b.getD (i + 1) 0).toNat) (if x = 2 then sAt b (i + 2) 2 else i)) = R from by have := Hseg.out; rw [if_neg (by omega)] at this; exact this)
    clear Hseg
    by_cases hx1 : x = 1
    · subst hx1
      have Hs := hid (show segOpts g1 b (i + 1) i = R from by have := Hs1.out; rw [if_pos rfl] at this; exact this)
      clear Hs1
      go_wp2_with fail
      go_step3
      exact ⟨rfl, ⟨rfl, i + 1, i, g1, _, _, _, _, _, _, _, _, _, _, _, _, _, _, _, _, _, _, _, _, _, _, _, _, _, _, _, _, _, _, _, _, _, _, _, _, _, _, _, _, _, _, _, _, _, _, _, _, _, _, _, _, _, _, _, _, _, _, _, _, _, _, _, _, _, _, rfl, by rw [HL.out]; omega, Hs.out, by rw [HL.out]; omega, hms⟩⟩
    have hxb1 : ((x : Int) == 1) = false := by simp; omega
    have Hs2 := hid (by have := Hs1.out; rw [if_neg hx1] at this; exact this)
    clear Hs1
    by_cases hl1 : L ≤ i + 1
    · have t2 : (i : Int) + 1 ≥ (L : Int) := by omega
      have Hs := hid (show R = none from by have := Hs2.out; rw [if_pos hl1] at this; exact this.symm)
      clear Hs2
      go_wp2_with fail
      try simp only [Exit.jump]
      go_ret2
      exact ⟨by rw [Hs.out]; rfl, rfl⟩
    have t2 : ¬ (i : Int) + 1 ≥ (L : Int) := by omega
    have hib1 : i + 1 < b.length := by rw [HL.out]; omega
    obtain ⟨A9, o9, e9, hc1⟩ := cell_of Hb.out hib1
    injection e9 with e9
    injection e9 with e91 e92
    subst e91; subst e92
    obtain ⟨y, hy⟩ : ∃ y, b[i + 1].toNat = y := ⟨_, rfl⟩
    have hy2 : y < 256 := by rw [← hy]; exact b[i + 1].toNat_lt
    have hgi : (b.getD (i + 1) 0).toNat = y := by rw [List.getD_eq_getElem?_getD, List.getElem?_eq_getElem hib1, Option.getD_some]; exact hy
    rw [hy] at hc1
    have Hs3 := hid (by have := Hs2.out; rw [if_neg hl1, hgi] at this; exact this)
    clear Hs2 hgi hy
    by_cases hy0 : y < 2
    · have t3 : (y : Int) < 2 := by omega
      have Hs := hid (show R = none from by have := Hs3.out; rw [if_pos (.inl hy0)] at this; exact this.symm)
      clear Hs3
      go_wp2_with fail
      try simp only [Exit.jump]
      go_ret2
      exact ⟨by rw [Hs.out]; rfl, rfl⟩
    have t3 : ¬ (y : Int) < 2 := by omega
    by_cases hy1 : L < i + y
    · have t4 : (i : Int) + (y : Int) > (L : Int) := by omega
      have Hs := hid (show R = none from by have := Hs3.out; rw [if_pos (.inr (.inl hy1))] at this; exact this.symm)
      clear Hs3
      go_wp2_with fail
      try simp only [Exit.jump]
      go_ret2
      exact ⟨by rw [Hs.out]; rfl, rfl⟩
    have t4 : ¬ (i : Int) + (y : Int) > (L : Int) := by omega
    by_cases hx2 : x = 2
    · subst hx2
      by_cases hy4 : y = 4
      · subst hy4
        obtain ⟨m2, hm2⟩ : ∃ m, sAt b (i + 2) 2 = m := ⟨_, rfl⟩
        have hm3 : m2 < 65536 := by rw [← hm2]; exact sAt_lt b (i + 2) 2
        have Hs := hid (show segOpts g1 b (i + 4) m2 = R from by have := Hs3.out; rw [if_neg (by omega), if_pos rfl, hm2] at this; exact this)
        have HT := hid (tat_any _ b (i + 2) 2 m2 ((i : Int) + 2) 2 w Hb.out (by omega) rfl (.inl rfl) (by rw [HL.out]; omega) hm2 (by rw [HL.out]; omega))
        clear Hs3
        go_wp2_with (go_at_call 55; refine HT.out.mono ?_; rintro e w' ⟨rfl, rfl⟩)
        go_step3
        exact ⟨rfl, ⟨rfl, i + 4, m2, g1, _, _, _, _, _, _, _, _, _, _, _, _, _, _, _, _, _, _, _, _, _, _, _, _, _, _, _, _, _, _, _, _, _, _, _, _, _, _, _, _, _, _, _, _, _, _, _, _, _, _, _, _, _, _, _, _, _, _, _, _, _, _, _, _, _, _, rfl, by rw [HL.out]; omega, Hs.out, by rw [HL.out]; omega, hm3⟩⟩
      · have t5 : ((y : Int) == 4) = false := by simp; omega
        have Hs := hid (show R = none from by have := Hs3.out; rw [if_pos (.inr (.inr ⟨rfl, hy4⟩))] at this; exact this.symm)
        clear Hs3
        go_wp2_with fail
        try simp only [Exit.jump]
        go_ret2
        exact ⟨by rw [Hs.out]; rfl, rfl⟩
    · have t5 : ((x : Int) == 2) = false := by simp; omega
      have Hs := hid (show segOpts g1 b (i + y) i = R from by have := Hs3.out; rw [if_neg (by omega), if_neg hx2] at this; exact this)
      clear Hs3
      go_wp2_with fail
      go_step3
      exact ⟨rfl, ⟨rfl, i + y, i, g1, _, _, _, _, _, _, _, _, _, _, _, _, _, _, _, _, _, _, _, _, _, _, _, _, _, _, _, _, _, _, _, _, _, _, _, _, _, _, _, _, _, _, _, _, _, _, _, _, _, _, _, _, _, _, _, _, _, _, _, _, _, _, _, _, _, _, rfl, by rw [HL.out]; omega, Hs.out, by rw [HL.out]; omega, hms⟩⟩
  · rintro a wr ⟨rfl, i, mss, g, u2, u3, u6, u7, u8, u9, u10, u11, u12, u13, u14, u15, u16, u17, u18, u19, u20, u21, u22, u23, u24, u25, u26, u27, u28, u29, u30, u31, u32, u33, u34, u35, u36, u37, u38, u39, u40, u41, u42, u43, u44, u45, u46, u47, u48, u49, u50, u51, u52, u53, u54, u55, u56, u57, u58, u59, u60, u61, u62, u63, u64, u65, u66, u67, u68, u69, rfl, hi, hseg, hil, hms⟩
    rw [HL.out] at hi hil
    by_cases hlt : i < L
    case neg =>
      have t1 : (i : Int) ≥ (L : Int) := by omega
      rw [segOpts_end (by rw [HL.out]; omega)] at hseg
      have Hs := hid hseg.symm
      clear hlt hseg
      go_wp2_with fail
      try simp only [Exit.jump]
      go_ret2
      exact ⟨by rw [Hs.out]; rfl, rfl⟩
    case pos =>
    have t1 : ¬ (i : Int) ≥ (L : Int) := by omega
    have hib : i < b.length := by rw [HL.out]; exact hlt
    obtain ⟨g1, rfl⟩ : ∃ g1, g = g1 + 1 := ⟨g - 1, by omega⟩
    obtain ⟨A0, o0, rfl, hc0⟩ := cell_of Hb.out hib
    obtain ⟨x, hx⟩ : ∃ x, b[i].toNat = x := ⟨_, rfl⟩
    have hx2 : x < 256 := by rw [← hx]; exact b[i].toNat_lt
    have hgi : (b.getD i 0).toNat = x := by rw [List.getD_eq_getElem?_getD, List.getElem?_eq_getElem hib, Option.getD_some]; exact hx
    rw [hx] at hc0
    unfold segOpts at hseg
    rw [hgi, HL.out] at hseg
    have Hseg := hid hseg
    clear hseg hx hgi
    by_cases hx0 : x = 0
    · subst hx0
      have Hs := hid (show R = some mss from by have := Hseg.out; rw [if_pos (.inr rfl)] at this; exact this.symm)
      go_wp2_with fail
      try simp only [Exit.jump]
      go_ret2
      exact ⟨by rw [Hs.out]; rfl, rfl⟩
    have hxb : ((x : Int) == 0) = false := by simp; omega
    have Hs1 := hid (show (if x = 1 then segOpts g1 b (i + 1) mss else if L ≤ i + 1 then none else if (b.getD (i + 1) 0).toNat < 2 ∨ L < i + (b.getD (i + 1) 0).toNat ∨ (x = 2 ∧ (b.getD (i + 1) 0).toNat ≠ 4) then none else segOpts g1 b (i + (b.getD (i + 1) 0).toNat) (if x = 2 then sAt b (i + 2) 2 else mss)) = R from by have := Hseg.out; rw [if_neg (by omega)] at this; exact this)
    clear Hseg
    by_cases hx1 : x = 1
    · subst hx1
      have Hs := hid (show segOpts g1 b (i + 1) mss = R from by have := Hs1.out; rw [if_pos rfl] at this; exact this)
      clear Hs1
      go_wp2_with fail
      go_step3
      exact ⟨rfl, ⟨rfl, i + 1, mss, g1, _, _, _, _, _, _, _, _, _, _, _, _, _, _, _, _, _, _, _, _, _, _, _, _, _, _, _, _, _, _, _, _, _, _, _, _, _, _, _, _, _, _, _, _, _, _, _, _, _, _, _, _, _, _, _, _, _, _, _, _, _, _, _, _, _, _, rfl, by rw [HL.out]; omega, Hs.out, by rw [HL.out]; omega, hms⟩, by simp [intOf]; omega⟩
    have hxb1 : ((x : Int) == 1) = false := by simp; omega
    have Hs2 := hid (by have := Hs1.out; rw [if_neg hx1] at this; exact this)
    clear Hs1
    by_cases hl1 : L ≤ i + 1
    · have t2 : (i : Int) + 1 ≥ (L : Int) := by omega
      have Hs := hid (show R = none from by have := Hs2.out; rw [if_pos hl1] at this; exact this.symm)
      clear Hs2
      go_wp2_with fail
      try simp only [Exit.jump]
      go_ret2
      exact ⟨by rw [Hs.out]; rfl, rfl⟩
    have t2 : ¬ (i : Int) + 1 ≥ (L : Int) := by omega
    have hib1 : i + 1 < b.length := by rw [HL.out]; omega
    obtain ⟨A9, o9, e9, hc1⟩ := cell_of Hb.out hib1
    injection e9 with e9
    injection e9 with e91 e92
    subst e91; subst e92
    obtain ⟨y, hy⟩ : ∃ y, b[i + 1].toNat = y := ⟨_, rfl⟩
    have hy2 : y < 256 := by rw [← hy]; exact b[i + 1].toNat_lt
    have hgi : (b.getD (i + 1) 0).toNat = y := by rw [List.getD_eq_getElem?_getD, List.getElem?_eq_getElem hib1, Option.getD_some]; exact hy
    rw [hy] at hc1
    have Hs3 := hid (by have := Hs2.out; rw [if_neg hl1, hgi] at this; exact this)
    clear Hs2 hgi hy
    by_cases hy0 : y < 2
    · have t3 : (y : Int) < 2 := by omega
      have Hs := hid (show R = none from by have := Hs3.out; rw [if_pos (.inl hy0)] at this; exact this.symm)
      clear Hs3
      go_wp2_with fail
      try simp only [Exit.jump]
      go_ret2
      exact ⟨by rw [Hs.out]; rfl, rfl⟩
    have t3 : ¬ (y : Int) < 2 := by omega
    by_cases hy1 : L < i + y
    · have t4 : (i : Int) + (y : Int) > (L : Int) := by omega
      have Hs := hid (show R = none from by have := Hs3.out; rw [if_pos (.inr (.inl hy1))] at this; exact this.symm)
      clear Hs3
      go_wp2_with fail
      try simp only [Exit.jump]
      go_ret2
      exact ⟨by rw [Hs.out]; rfl, rfl⟩
    have t4 : ¬ (i : Int) + (y : Int) > (L : Int) := by omega
    by_cases hx2 : x = 2
    · subst hx2
      by_cases hy4 : y = 4
      · subst hy4
        obtain ⟨m2, hm2⟩ : ∃ m, sAt b (i + 2) 2 = m := ⟨_, rfl⟩
        have hm3 : m2 < 65536 := by rw [← hm2]; exact sAt_lt b (i + 2) 2
        have Hs := hid (show segOpts g1 b (i + 4) m2 = R from by have := Hs3.out; rw [if_neg (by omega), if_pos rfl, hm2] at this; exact this)
        have HT := hid (tat_any _ b (i + 2) 2 m2 ((i : Int) + 2) 2 wr Hb.out (by omega) rfl (.inl rfl) (by rw [HL.out]; omega) hm2 (by rw [HL.out]; omega))
        clear Hs3
        go_wp2_with (go_at_call 55; refine HT.out.mono ?_; rintro e w' ⟨rfl, rfl⟩)
        go_step3
        exact ⟨rfl, ⟨rfl, i + 4, m2, g1, _, _, _, _, _, _, _, _, _, _, _, _, _, _, _, _, _, _, _, _, _, _, _, _, _, _, _, _, _, _, _, _, _, _, _, _, _, _, _, _, _, _, _, _, _, _, _, _, _, _, _, _, _, _, _, _, _, _, _, _, _, _, _, _, _, _, rfl, by rw [HL.out]; omega, Hs.out, by rw [HL.out]; omega, hm3⟩, by simp [intOf]; omega⟩
      · have t5 : ((y : Int) == 4) = false := by simp; omega
        have Hs := hid (show R = none from by have := Hs3.out; rw [if_pos (.inr (.inr ⟨rfl, hy4⟩))] at this; exact this.symm)
        clear Hs3
        go_wp2_with fail
        try simp only [Exit.jump]
        go_ret2
        exact ⟨by rw [Hs.out]; rfl, rfl⟩
    · have t5 : ((x : Int) == 2) = false := by simp; omega
      have Hs := hid (show segOpts g1 b (i + y) mss = R from by have := Hs3.out; rw [if_neg (by omega), if_neg hx2] at this; exact this)
      clear Hs3
      go_wp2_with fail
      go_step3
      exact ⟨rfl, ⟨rfl, i + y, mss, g1, _, _, _, _, _, _, _, _, _, _, _, _, _, _, _, _, _, _, _, _, _, _, _, _, _, _, _, _, _, _, _, _, _, _, _, _, _, _, _, _, _, _, _, _, _, _, _, _, _, _, _, _, _, _, _, _, _, _, _, _, _, _, _, _, _, _, rfl, by rw [HL.out]; omega, Hs.out, by rw [HL.out]; omega, hms⟩, by simp [intOf]; omega⟩
end Go.Proofs.Ytahlcjkcdgahkaa
