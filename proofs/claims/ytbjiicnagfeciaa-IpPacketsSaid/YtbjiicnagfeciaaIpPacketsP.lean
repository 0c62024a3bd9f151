/- any bytes are read as a packet, any packet written, as the document says. No conditions. -/
import Derived.Test.YtbjiicnagfeciaaRows
import Derived.Test.YtbjiicnagfeciaaIpPacketsW
import Derived.Test.YtbjiicnagfeciaaOpen
import Derived.Lib.SmallJoins
import Derived.Test.YtbjiicnagfeciaaOpen9
namespace Go.Proofs.Ytbjiicnagfeciaa.ipPackets
open Go.ChangeShapes Go.WideShapes Go.ChangeAt Go.RowKit
set_option linter.unusedVariables false

theorem own : ownKnob Try.prog.godebug = none := by kernel_rfl
theorem laidOut : laidOutB Try.prog = true := by kernel_rfl

set_option maxRecDepth 100000 in
theorem lifted (os : Os) (started : os.Started) (H : Type) (enc : TypeId × Value → H) :
    ReturnsInHanded {} Try.checked os 6 .any (Rows.ipPacketsSpec.pre6 enc Try.prog Try.f6 Rows.ipPacketsRow.domain false) (Rows.ipPacketsSpec.post enc Try.prog Try.f6 false true false false) := by
  refine returnsInHanded_of_change_sized (C := Try.checked) own started (by kernel_rfl) Try.func6
    (ChangeSpec.witness6 (enc := enc) (C := Try.checked) false ⟨#[], #[.slice none 0 0, .agg #[.int .u32 0, .int .u32 0, .int .i64 0, .int .i64 0, .int .i64 0, .bool false, .bool false, .int .i64 0, .slice none 0 0]], []⟩ 8 (by kernel_rfl) (by kernel_rfl) (by kernel_rfl) (by kernel_rfl)) ?_
  intro W base args ds gs before hval0 hW hcnd hsz0 _
  have hval : ∀ (j : Nat) t v, Try.f6.params[j]? = some t → args[j]? = some v → Value.okWide Try.prog W .any base t v := hval0
  have hW' := hW
  obtain ⟨p, q, hA0, hV, rfl, hfz, hnd⟩ := hW
  have hA : DataW.TrodAll enc Try.prog W 0 (fun _ => true) true Try.f6.params.toList args.toList ds p := hA0
  have hsz : (DataW.weightsEach Try.prog (Try.f6.params.toList ++ Rows.ipPacketsSpec.plain.varTypes Try.prog) (ds ++ gs)).all (· ≤ reachBytes) = true := hsz0
  rw [Try.params6] at hA hval hsz
  obtain ⟨v0, vs0, d0, ds0, p0, q0, hargs, rfl, rfl, h0, r0⟩ := trodAll_cons hA
  obtain ⟨v1, vs1, d1, ds1, p1, q1, rfl, rfl, rfl, h1, r1⟩ := trodAll_cons r0
  obtain ⟨rfl, rfl, rfl⟩ := trodAll_nil r1
  obtain rfl : args = #[v0, v1] := by cases args; simp_all
  obtain ⟨rfl, rfl⟩ := trodVars_none hV
  have k0 := h0
  have lt0 : ∀ x ∈ p0, x.block < W.heap.size := by obtain ⟨m, hm⟩ := k0; exact DataW.trod_lt m _ _ _ hm
  obtain ⟨ad0, len0, cap0, rfl⟩ := okWide_slice Try.underlying23 (hval 0 23 v0 rfl rfl)
  obtain ⟨fu0, hf0⟩ := h0
  obtain ⟨b0, hb0, hq0⟩ := rd_bs (v := .slice ad0 len0 cap0) Try.underlying23 Try.underlying5 (by kernel_rfl) hf0
  have hl0 := reach_le hsz (j := 0) (d := d0) rfl rfl Try.underlying23 (of_decide_eq_true (by kernel_rfl)) hq0
  have k1 := h1
  have lt1 : ∀ x ∈ p1, x.block < W.heap.size := by obtain ⟨m, hm⟩ := k1; exact DataW.trod_lt m _ _ _ hm
  obtain ⟨cs1, rfl, hcs1, hal1⟩ := open_aggN (N := 9) Try.underlying25 (by kernel_rfl) (by kernel_rfl) (hval 1 25 v1 rfl rfl) h1
  obtain ⟨v1_0, v1_1, v1_2, v1_3, v1_4, v1_5, v1_6, v1_7, v1_8, rfl⟩ := array9 hcs1
  obtain ⟨m1_0, y1_0, hy1_0⟩ := hal1 0 _ _ rfl rfl
  obtain ⟨m1_1, y1_1, hy1_1⟩ := hal1 1 _ _ rfl rfl
  obtain ⟨m1_2, y1_2, hy1_2⟩ := hal1 2 _ _ rfl rfl
  obtain ⟨m1_3, y1_3, hy1_3⟩ := hal1 3 _ _ rfl rfl
  obtain ⟨m1_4, y1_4, hy1_4⟩ := hal1 4 _ _ rfl rfl
  obtain ⟨m1_5, y1_5, hy1_5⟩ := hal1 5 _ _ rfl rfl
  obtain ⟨m1_6, y1_6, hy1_6⟩ := hal1 6 _ _ rfl rfl
  obtain ⟨m1_7, y1_7, hy1_7⟩ := hal1 7 _ _ rfl rfl
  obtain ⟨m1_8, y1_8, hy1_8⟩ := hal1 8 _ _ rfl rfl
  obtain ⟨f1_0, e1_0, _, wf1_0⟩ := DataW.trod_int Try.underlying22 hy1_0
  simp only [List.cons.injEq, and_true] at e1_0
  subst e1_0
  obtain ⟨lo1_0, hi1_0⟩ : (0 : Int) ≤ f1_0 ∧ f1_0 ≤ 4294967295 := by simp [Lit.wf, IntKind.min, IntKind.max, IntKind.bits, IntKind.signed] at wf1_0; omega
  obtain ⟨n1_0, rfl⟩ : ∃ n : Nat, f1_0 = n := ⟨f1_0.toNat, by omega⟩
  obtain ⟨f1_1, e1_1, _, wf1_1⟩ := DataW.trod_int Try.underlying22 hy1_1
  simp only [List.cons.injEq, and_true] at e1_1
  subst e1_1
  obtain ⟨lo1_1, hi1_1⟩ : (0 : Int) ≤ f1_1 ∧ f1_1 ≤ 4294967295 := by simp [Lit.wf, IntKind.min, IntKind.max, IntKind.bits, IntKind.signed] at wf1_1; omega
  obtain ⟨n1_1, rfl⟩ : ∃ n : Nat, f1_1 = n := ⟨f1_1.toNat, by omega⟩
  obtain ⟨f1_2, e1_2, _, wf1_2⟩ := DataW.trod_int Try.underlying3 hy1_2
  simp only [List.cons.injEq, and_true] at e1_2
  subst e1_2
  obtain ⟨lo1_2, hi1_2⟩ : (-9223372036854775808 : Int) ≤ f1_2 ∧ f1_2 ≤ 9223372036854775807 := by simp [Lit.wf, IntKind.min, IntKind.max, IntKind.bits, IntKind.signed] at wf1_2; omega
  obtain ⟨f1_3, e1_3, _, wf1_3⟩ := DataW.trod_int Try.underlying3 hy1_3
  simp only [List.cons.injEq, and_true] at e1_3
  subst e1_3
  obtain ⟨lo1_3, hi1_3⟩ : (-9223372036854775808 : Int) ≤ f1_3 ∧ f1_3 ≤ 9223372036854775807 := by simp [Lit.wf, IntKind.min, IntKind.max, IntKind.bits, IntKind.signed] at wf1_3; omega
  obtain ⟨f1_4, e1_4, _, wf1_4⟩ := DataW.trod_int Try.underlying3 hy1_4
  simp only [List.cons.injEq, and_true] at e1_4
  subst e1_4
  obtain ⟨lo1_4, hi1_4⟩ : (-9223372036854775808 : Int) ≤ f1_4 ∧ f1_4 ≤ 9223372036854775807 := by simp [Lit.wf, IntKind.min, IntKind.max, IntKind.bits, IntKind.signed] at wf1_4; omega
  obtain ⟨f1_5, e1_5, _⟩ := DataW.trod_bool Try.underlying4 hy1_5
  simp only [List.cons.injEq, and_true] at e1_5
  subst e1_5
  obtain ⟨f1_6, e1_6, _⟩ := DataW.trod_bool Try.underlying4 hy1_6
  simp only [List.cons.injEq, and_true] at e1_6
  subst e1_6
  obtain ⟨f1_7, e1_7, _, wf1_7⟩ := DataW.trod_int Try.underlying3 hy1_7
  simp only [List.cons.injEq, and_true] at e1_7
  subst e1_7
  obtain ⟨lo1_7, hi1_7⟩ : (-9223372036854775808 : Int) ≤ f1_7 ∧ f1_7 ≤ 9223372036854775807 := by simp [Lit.wf, IntKind.min, IntKind.max, IntKind.bits, IntKind.signed] at wf1_7; omega
  obtain ⟨b1_8, hb1_8, hq1_8⟩ := rd_bs Try.underlying23 Try.underlying5 (by kernel_rfl) hy1_8
  clear hA0 hval0
  refine ((ipPackets_walk _ b0 _ ⟨n1_0, n1_1, f1_2, f1_3, f1_4, f1_5, f1_6, f1_7, b1_8⟩ W hb0 hb1_8 (show n1_0 < 4294967296 by omega) (show n1_1 < 4294967296 by omega))).mono fun e W' ⟨he, bel⟩ => ?_
  subst he
  exact ⟨_, rfl, _, _, _, [], _, [], hW', trodAll_mk1 (shut_bool Try.underlying4 _), (trodAll_cons_mk (Below.trod laidOut (by kernel_rfl) (of_decide_eq_true (by kernel_rfl)) k0 bel lt0) (trodAll_cons_mk (Below.trod laidOut (by kernel_rfl) (of_decide_eq_true (by kernel_rfl)) k1 bel lt1) trodAll_mk0)), rfl, bel.frame _, fun h => by cases h⟩

theorem over : Rows.ipPacketsRow.holds Try.pinned (OpenSpec.ofChange Rows.ipPacketsSpec) :=
  OpenClaim.holds_of_wide 6 Try.f6 rfl rfl rfl rfl rfl rfl rfl ⟨rfl, rfl, rfl, rfl, rfl⟩ rfl rfl rfl rfl rfl (by kernel_rfl) Try.func6 (by kernel_rfl)
    (of_decide_eq_true (by kernel_rfl)) (by unfold Func.isWrapper; first | (rw [if_pos (by decide +kernel)]; kernel_rfl) | (rw [if_neg (by decide +kernel)]; exact ⟨rfl, rfl⟩))
    (fun os started H enc _ => lifted os started H enc)

theorem proved : Rows.IpPacketsSaid := over
#print axioms proved
end Go.Proofs.Ytbjiicnagfeciaa.ipPackets
