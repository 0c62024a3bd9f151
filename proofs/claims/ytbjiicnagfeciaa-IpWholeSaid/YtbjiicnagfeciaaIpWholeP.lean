/- The proof of IpWhole -/
import Derived.Test.YtbjiicnagfeciaaRows
import Derived.Test.YtbjiicnagfeciaaIpWholeW
import Derived.Test.YtbjiicnagfeciaaOpen
import Derived.Test.YtbjiicnagfeciaaOpenInts
import Derived.Lib.SmallJoins
import Derived.Test.YtbjiicnagfeciaaOpen9
namespace Go.Proofs.Ytbjiicnagfeciaa.ipWhole
open Go.ChangeShapes Go.WideShapes Go.ChangeAt Go.RowKit
set_option linter.unusedVariables false

theorem own : ownKnob Try.prog.godebug = none := by kernel_rfl
theorem laidOut : laidOutB Try.prog = true := by kernel_rfl

set_option maxRecDepth 100000 in
theorem lifted (os : Os) (started : os.Started) (H : Type) (enc : TypeId × Value → H) :
    ReturnsInHanded {} Try.checked os 5 .any (Rows.ipWholeSpec.pre6 enc Try.prog Try.f5 Rows.ipWholeRow.domain false) (Rows.ipWholeSpec.post enc Try.prog Try.f5 false true false false) := by
  refine returnsInHanded_of_change_sized (C := Try.checked) own started (by kernel_rfl) Try.func5
    (ChangeSpec.witness6 (enc := enc) (C := Try.checked) false ⟨#[], #[.agg #[.int .u32 0, .int .u32 0, .int .i64 0, .int .i64 0, .int .i64 0, .bool false, .bool false, .int .i64 0, .slice none 0 0], .int .i64 0, .slice none 0 0, .agg #[.int .u32 0, .int .u32 0, .int .i64 0, .int .i64 0, .int .i64 0, .bool false, .bool false, .int .i64 0, .slice none 0 0]], []⟩ 8 (by kernel_rfl) (by kernel_rfl) (by kernel_rfl) (by kernel_rfl)) ?_
  intro W base args ds gs before hval0 hW hcnd hsz0 _
  have hval : ∀ (j : Nat) t v, Try.f5.params[j]? = some t → args[j]? = some v → Value.okWide Try.prog W .any base t v := hval0
  have hW' := hW
  obtain ⟨p, q, hA0, hV, rfl, hfz, hnd⟩ := hW
  have hA : DataW.TrodAll enc Try.prog W 0 (fun _ => true) true Try.f5.params.toList args.toList ds p := hA0
  have hsz : (DataW.weightsEach Try.prog (Try.f5.params.toList ++ Rows.ipWholeSpec.plain.varTypes Try.prog) (ds ++ gs)).all (· ≤ reachBytes) = true := hsz0
  rw [Try.params5] at hA hval hsz
  obtain ⟨v0, vs0, d0, ds0, p0, q0, hargs, rfl, rfl, h0, r0⟩ := trodAll_cons hA
  obtain ⟨v1, vs1, d1, ds1, p1, q1, rfl, rfl, rfl, h1, r1⟩ := trodAll_cons r0
  obtain ⟨v2, vs2, d2, ds2, p2, q2, rfl, rfl, rfl, h2, r2⟩ := trodAll_cons r1
  obtain ⟨v3, vs3, d3, ds3, p3, q3, rfl, rfl, rfl, h3, r3⟩ := trodAll_cons r2
  obtain ⟨rfl, rfl, rfl⟩ := trodAll_nil r3
  obtain rfl : args = #[v0, v1, v2, v3] := by cases args; simp_all
  obtain ⟨rfl, rfl⟩ := trodVars_none hV
  have k0 := h0
  have lt0 : ∀ x ∈ p0, x.block < W.heap.size := by obtain ⟨m, hm⟩ := k0; exact DataW.trod_lt m _ _ _ hm
  obtain ⟨cs0, rfl, hcs0, hal0⟩ := open_aggN (N := 9) Try.underlying25 (by kernel_rfl) (by kernel_rfl) (hval 0 25 v0 rfl rfl) h0
  obtain ⟨v0_0, v0_1, v0_2, v0_3, v0_4, v0_5, v0_6, v0_7, v0_8, rfl⟩ := array9 hcs0
  obtain ⟨m0_0, y0_0, hy0_0⟩ := hal0 0 _ _ rfl rfl
  obtain ⟨m0_1, y0_1, hy0_1⟩ := hal0 1 _ _ rfl rfl
  obtain ⟨m0_2, y0_2, hy0_2⟩ := hal0 2 _ _ rfl rfl
  obtain ⟨m0_3, y0_3, hy0_3⟩ := hal0 3 _ _ rfl rfl
  obtain ⟨m0_4, y0_4, hy0_4⟩ := hal0 4 _ _ rfl rfl
  obtain ⟨m0_5, y0_5, hy0_5⟩ := hal0 5 _ _ rfl rfl
  obtain ⟨m0_6, y0_6, hy0_6⟩ := hal0 6 _ _ rfl rfl
  obtain ⟨m0_7, y0_7, hy0_7⟩ := hal0 7 _ _ rfl rfl
  obtain ⟨m0_8, y0_8, hy0_8⟩ := hal0 8 _ _ rfl rfl
  obtain ⟨f0_0, e0_0, _, wf0_0⟩ := DataW.trod_int Try.underlying22 hy0_0
  simp only [List.cons.injEq, and_true] at e0_0
  subst e0_0
  obtain ⟨lo0_0, hi0_0⟩ : (0 : Int) ≤ f0_0 ∧ f0_0 ≤ 4294967295 := by simp [Lit.wf, IntKind.min, IntKind.max, IntKind.bits, IntKind.signed] at wf0_0; omega
  obtain ⟨n0_0, rfl⟩ : ∃ n : Nat, f0_0 = n := ⟨f0_0.toNat, by omega⟩
  obtain ⟨f0_1, e0_1, _, wf0_1⟩ := DataW.trod_int Try.underlying22 hy0_1
  simp only [List.cons.injEq, and_true] at e0_1
  subst e0_1
  obtain ⟨lo0_1, hi0_1⟩ : (0 : Int) ≤ f0_1 ∧ f0_1 ≤ 4294967295 := by simp [Lit.wf, IntKind.min, IntKind.max, IntKind.bits, IntKind.signed] at wf0_1; omega
  obtain ⟨n0_1, rfl⟩ : ∃ n : Nat, f0_1 = n := ⟨f0_1.toNat, by omega⟩
  obtain ⟨f0_2, e0_2, _, wf0_2⟩ := DataW.trod_int Try.underlying3 hy0_2
  simp only [List.cons.injEq, and_true] at e0_2
  subst e0_2
  obtain ⟨lo0_2, hi0_2⟩ : (-9223372036854775808 : Int) ≤ f0_2 ∧ f0_2 ≤ 9223372036854775807 := by simp [Lit.wf, IntKind.min, IntKind.max, IntKind.bits, IntKind.signed] at wf0_2; omega
  obtain ⟨f0_3, e0_3, _, wf0_3⟩ := DataW.trod_int Try.underlying3 hy0_3
  simp only [List.cons.injEq, and_true] at e0_3
  subst e0_3
  obtain ⟨lo0_3, hi0_3⟩ : (-9223372036854775808 : Int) ≤ f0_3 ∧ f0_3 ≤ 9223372036854775807 := by simp [Lit.wf, IntKind.min, IntKind.max, IntKind.bits, IntKind.signed] at wf0_3; omega
  obtain ⟨f0_4, e0_4, _, wf0_4⟩ := DataW.trod_int Try.underlying3 hy0_4
  simp only [List.cons.injEq, and_true] at e0_4
  subst e0_4
  obtain ⟨lo0_4, hi0_4⟩ : (-9223372036854775808 : Int) ≤ f0_4 ∧ f0_4 ≤ 9223372036854775807 := by simp [Lit.wf, IntKind.min, IntKind.max, IntKind.bits, IntKind.signed] at wf0_4; omega
  obtain ⟨f0_5, e0_5, _⟩ := DataW.trod_bool Try.underlying4 hy0_5
  simp only [List.cons.injEq, and_true] at e0_5
  subst e0_5
  obtain ⟨f0_6, e0_6, _⟩ := DataW.trod_bool Try.underlying4 hy0_6
  simp only [List.cons.injEq, and_true] at e0_6
  subst e0_6
  obtain ⟨f0_7, e0_7, _, wf0_7⟩ := DataW.trod_int Try.underlying3 hy0_7
  simp only [List.cons.injEq, and_true] at e0_7
  subst e0_7
  obtain ⟨lo0_7, hi0_7⟩ : (-9223372036854775808 : Int) ≤ f0_7 ∧ f0_7 ≤ 9223372036854775807 := by simp [Lit.wf, IntKind.min, IntKind.max, IntKind.bits, IntKind.signed] at wf0_7; omega
  obtain ⟨b0_8, hb0_8, hq0_8⟩ := rd_bs Try.underlying23 Try.underlying5 (by kernel_rfl) hy0_8
  have k1 := h1
  have lt1 : ∀ x ∈ p1, x.block < W.heap.size := by obtain ⟨m, hm⟩ := k1; exact DataW.trod_lt m _ _ _ hm
  obtain ⟨a1, rfl, _, _, wf1⟩ := open_int Try.underlying3 (hval 1 3 v1 rfl rfl) h1
  obtain ⟨lo1, hi1⟩ : (-9223372036854775808 : Int) ≤ a1 ∧ a1 ≤ 9223372036854775807 := by simp [Lit.wf, IntKind.min, IntKind.max, IntKind.bits, IntKind.signed] at wf1; omega
  have k2 := h2
  have lt2 : ∀ x ∈ p2, x.block < W.heap.size := by obtain ⟨m, hm⟩ := k2; exact DataW.trod_lt m _ _ _ hm
  obtain ⟨ad2, len2, cap2, rfl⟩ := okWide_slice Try.underlying47 (hval 2 47 v2 rfl rfl)
  obtain ⟨fu2, hf2⟩ := h2
  obtain ⟨l2, hu2, hw2, hq2⟩ := rd_ints (k := .i64) (v := .slice ad2 len2 cap2) Try.underlying47 Try.underlying3 (by kernel_rfl) hf2
  have hl2 := reach_le hsz (j := 2) (d := d2) rfl rfl Try.underlying47 (of_decide_eq_true (by kernel_rfl)) hq2
  have k3 := h3
  have lt3 : ∀ x ∈ p3, x.block < W.heap.size := by obtain ⟨m, hm⟩ := k3; exact DataW.trod_lt m _ _ _ hm
  obtain ⟨cs3, rfl, hcs3, hal3⟩ := open_aggN (N := 9) Try.underlying25 (by kernel_rfl) (by kernel_rfl) (hval 3 25 v3 rfl rfl) h3
  obtain ⟨v3_0, v3_1, v3_2, v3_3, v3_4, v3_5, v3_6, v3_7, v3_8, rfl⟩ := array9 hcs3
  obtain ⟨m3_0, y3_0, hy3_0⟩ := hal3 0 _ _ rfl rfl
  obtain ⟨m3_1, y3_1, hy3_1⟩ := hal3 1 _ _ rfl rfl
  obtain ⟨m3_2, y3_2, hy3_2⟩ := hal3 2 _ _ rfl rfl
  obtain ⟨m3_3, y3_3, hy3_3⟩ := hal3 3 _ _ rfl rfl
  obtain ⟨m3_4, y3_4, hy3_4⟩ := hal3 4 _ _ rfl rfl
  obtain ⟨m3_5, y3_5, hy3_5⟩ := hal3 5 _ _ rfl rfl
  obtain ⟨m3_6, y3_6, hy3_6⟩ := hal3 6 _ _ rfl rfl
  obtain ⟨m3_7, y3_7, hy3_7⟩ := hal3 7 _ _ rfl rfl
  obtain ⟨m3_8, y3_8, hy3_8⟩ := hal3 8 _ _ rfl rfl
  obtain ⟨f3_0, e3_0, _, wf3_0⟩ := DataW.trod_int Try.underlying22 hy3_0
  simp only [List.cons.injEq, and_true] at e3_0
  subst e3_0
  obtain ⟨lo3_0, hi3_0⟩ : (0 : Int) ≤ f3_0 ∧ f3_0 ≤ 4294967295 := by simp [Lit.wf, IntKind.min, IntKind.max, IntKind.bits, IntKind.signed] at wf3_0; omega
  obtain ⟨n3_0, rfl⟩ : ∃ n : Nat, f3_0 = n := ⟨f3_0.toNat, by omega⟩
  obtain ⟨f3_1, e3_1, _, wf3_1⟩ := DataW.trod_int Try.underlying22 hy3_1
  simp only [List.cons.injEq, and_true] at e3_1
  subst e3_1
  obtain ⟨lo3_1, hi3_1⟩ : (0 : Int) ≤ f3_1 ∧ f3_1 ≤ 4294967295 := by simp [Lit.wf, IntKind.min, IntKind.max, IntKind.bits, IntKind.signed] at wf3_1; omega
  obtain ⟨n3_1, rfl⟩ : ∃ n : Nat, f3_1 = n := ⟨f3_1.toNat, by omega⟩
  obtain ⟨f3_2, e3_2, _, wf3_2⟩ := DataW.trod_int Try.underlying3 hy3_2
  simp only [List.cons.injEq, and_true] at e3_2
  subst e3_2
  obtain ⟨lo3_2, hi3_2⟩ : (-9223372036854775808 : Int) ≤ f3_2 ∧ f3_2 ≤ 9223372036854775807 := by simp [Lit.wf, IntKind.min, IntKind.max, IntKind.bits, IntKind.signed] at wf3_2; omega
  obtain ⟨f3_3, e3_3, _, wf3_3⟩ := DataW.trod_int Try.underlying3 hy3_3
  simp only [List.cons.injEq, and_true] at e3_3
  subst e3_3
  obtain ⟨lo3_3, hi3_3⟩ : (-9223372036854775808 : Int) ≤ f3_3 ∧ f3_3 ≤ 9223372036854775807 := by simp [Lit.wf, IntKind.min, IntKind.max, IntKind.bits, IntKind.signed] at wf3_3; omega
  obtain ⟨f3_4, e3_4, _, wf3_4⟩ := DataW.trod_int Try.underlying3 hy3_4
  simp only [List.cons.injEq, and_true] at e3_4
  subst e3_4
  obtain ⟨lo3_4, hi3_4⟩ : (-9223372036854775808 : Int) ≤ f3_4 ∧ f3_4 ≤ 9223372036854775807 := by simp [Lit.wf, IntKind.min, IntKind.max, IntKind.bits, IntKind.signed] at wf3_4; omega
  obtain ⟨f3_5, e3_5, _⟩ := DataW.trod_bool Try.underlying4 hy3_5
  simp only [List.cons.injEq, and_true] at e3_5
  subst e3_5
  obtain ⟨f3_6, e3_6, _⟩ := DataW.trod_bool Try.underlying4 hy3_6
  simp only [List.cons.injEq, and_true] at e3_6
  subst e3_6
  obtain ⟨f3_7, e3_7, _, wf3_7⟩ := DataW.trod_int Try.underlying3 hy3_7
  simp only [List.cons.injEq, and_true] at e3_7
  subst e3_7
  obtain ⟨lo3_7, hi3_7⟩ : (-9223372036854775808 : Int) ≤ f3_7 ∧ f3_7 ≤ 9223372036854775807 := by simp [Lit.wf, IntKind.min, IntKind.max, IntKind.bits, IntKind.signed] at wf3_7; omega
  obtain ⟨b3_8, hb3_8, hq3_8⟩ := rd_bs Try.underlying23 Try.underlying5 (by kernel_rfl) hy3_8
  clear hA0 hval0
  refine (ipWhole_walk _ _ _ ⟨n0_0, n0_1, f0_2, f0_3, f0_4, f0_5, f0_6, f0_7, b0_8⟩ ⟨n3_0, n3_1, f3_2, f3_3, f3_4, f3_5, f3_6, f3_7, b3_8⟩ a1 l2 W hb0_8 hb3_8 hu2 ⟨show n0_0 < 4294967296 by omega, show n0_1 < 4294967296 by omega, lo0_2, hi0_2, lo0_3, hi0_3⟩ ⟨show n3_0 < 4294967296 by omega, show n3_1 < 4294967296 by omega, lo3_2, hi3_2, lo3_3, hi3_3⟩).mono fun e W' ⟨he, bel⟩ => ?_
  subst he
  exact ⟨_, rfl, _, _, _, [], _, [], hW', trodAll_mk1 (shut_bool Try.underlying4 _), (trodAll_cons_mk (Below.trod laidOut (by kernel_rfl) (of_decide_eq_true (by kernel_rfl)) k0 bel lt0) (trodAll_cons_mk (Below.trod laidOut (by kernel_rfl) (of_decide_eq_true (by kernel_rfl)) k1 bel lt1) (trodAll_cons_mk (Below.trod laidOut (by kernel_rfl) (of_decide_eq_true (by kernel_rfl)) k2 bel lt2) (trodAll_cons_mk (Below.trod laidOut (by kernel_rfl) (of_decide_eq_true (by kernel_rfl)) k3 bel lt3) trodAll_mk0)))), rfl, bel.frame _, fun h => by cases h⟩

theorem over : Rows.ipWholeRow.holds Try.pinned (OpenSpec.ofChange Rows.ipWholeSpec) :=
  OpenClaim.holds_of_wide 5 Try.f5 rfl rfl rfl rfl rfl rfl rfl ⟨rfl, rfl, rfl, rfl, rfl⟩ rfl rfl rfl rfl rfl (by kernel_rfl) Try.func5 (by kernel_rfl)
    (of_decide_eq_true (by kernel_rfl)) (by unfold Func.isWrapper; first | (rw [if_pos (by decide +kernel)]; kernel_rfl) | (rw [if_neg (by decide +kernel)]; exact ⟨rfl, rfl⟩))
    (fun os started H enc _ => lifted os started H enc)

theorem proved : Rows.IpWholeSaid := over
#print axioms proved
end Go.Proofs.Ytbjiicnagfeciaa.ipWhole
