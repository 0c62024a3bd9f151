/- Contract of the document's Echo; what an echo's sums are. -/
import Derived.Test.YtbjiicnagfeciaaIpE
import Derived.Test.YtbjiicnagfeciaaNumCheckL
import Derived.Test.YtbjiicnagfeciaaIpTwin
namespace Go.Proofs.Ytbjiicnagfeciaa
open Go Go.RowKit
set_option maxRecDepth 100000

theorem u8_hi (S : Nat) (h : S ≤ 65535) : Value.int .u8 ((S : Int) / 256) = u8v (UInt8.ofNat (S / 256)) := by
  unfold u8v
  rw [UInt8.toNat_ofNat']
  exact val_int (by omega)
theorem u8_lo (S : Nat) : Value.int .u8 ((S : Int) % 256) = u8v (UInt8.ofNat S) := by
  unfold u8v
  rw [UInt8.toNat_ofNat']
  exact val_int (by omega)
/-- a sum in an even place: the whole sums to nought -/
theorem inet_sumAt (b : List UInt8) (i : Nat) (h : i + 2 ≤ b.length) (he : i % 2 = 0) : inet (sumAt b i) = 0 := by
  obtain ⟨P, x, y, Q, rfl, hP⟩ : ∃ P x y Q, b = P ++ x :: y :: Q ∧ P.length = i := by
    refine ⟨b.take i, b[i], b[i + 1], b.drop (i + 2), ?_, by simp; omega⟩
    rw [← List.drop_eq_getElem_cons (by omega), ← List.drop_eq_getElem_cons (by omega), List.take_append_drop]
  have e1 : ∀ (x y a c : UInt8), ((P ++ x :: y :: Q).set i a).set (i + 1) c = P ++ a :: c :: Q := by
    intro x y a c
    rw [List.set_append_right _ _ (by omega), List.set_append_right _ _ (by omega)]
    simp [hP]
  unfold sumAt
  rw [e1, e1]
  have hod : inetOdd false P = false := by rw [inetOdd_len, hP, he]; rfl
  have hacc : ∀ a c : UInt8, inetAcc false 0 (P ++ a :: c :: Q) = inetAcc false (inetAcc false 0 P) Q + (a.toNat * 256 + c.toNat) := by
    intro a c
    rw [inetAcc_append, hod]
    simp only [inetAcc]
    rw [show inetAcc false 0 P + a.toNat * 256 + c.toNat = inetAcc false 0 P + (a.toNat * 256 + c.toNat) by omega, inetAcc_add]
  have h1 : inet (P ++ 0 :: 0 :: Q) = 65535 - fold16 (inetAcc false 0 (P ++ 0 :: 0 :: Q)) := rfl
  have hz : ((0 : UInt8).toNat * 256 + (0 : UInt8).toNat) = 0 := by decide
  rw [hacc, hz] at h1
  rw [inet_zero, hacc]
  generalize inetAcc false (inetAcc false 0 P) Q = A at *
  generalize inet (P ++ 0 :: 0 :: Q) = S at *
  have h2 : (UInt8.ofNat (S / 256)).toNat = S / 256 % 256 := by simp
  have h3 : (UInt8.ofNat S).toNat = S % 256 := by simp
  rw [h2, h3]
  unfold fold16 at h1
  split at h1 <;> omega
theorem echo_form (b : List UInt8) (h8 : 8 ≤ b.length) (h1 : b[1] = 0) : ((((b.set 0 0).set 2 0).set (2 + 1) 0)) = [0, 0, 0, 0] ++ b.drop 4 := by
  match b, h8 with
  | x0 :: x1 :: x2 :: x3 :: r, _ =>
    simp at h1
    subst h1
    rfl

set_option maxHeartbeats 1000000 in
theorem recho_any (v : Value) (b : List UInt8) (w : World) (h : Bs w v b) (hl : b.length ≤ 1099511627776) :
    Calls Try.prog 18 #[v] w fun e w' => ∃ v', e = .returned (.tuple #[v', .int .i64 (ipEcho b).2]) ∧ OwnBs w' w.heap.size 5 v' (ipEcho b).1 ∧ Below w.heap.size w w' := by
  have Hb := hid h
  obtain ⟨A, cap, rfl, k1, k2, hc⟩ := h.cells
  clear h
  by_cases h8 : b.length < 8
  · have h8' : (b.length : Int) < 8 := by omega
    have Hr := hid (show ipEcho b = ([], 11) by unfold ipEcho; rw [if_pos h8])
    rw [Hr.out]
    go_enter Try.func18, Try.ntmps18
    go_wp2_with fail
    go_ret2
    exact ⟨_, rfl, OwnBs.nil _ _ _, Below.refl _ _⟩
  have h8' : ¬ (b.length : Int) < 8 := by omega
  obtain ⟨S, hS⟩ : ∃ S, inet b = S := ⟨_, rfl⟩
  have HS := hid hS
  have HS2 := hid hS
  have hS16 : S ≤ 65535 := by rw [← hS]; unfold inet; omega
  clear hS
  by_cases h0 : S = 0
  case neg =>
    have h0' : ((S : Int) != 0) = true := by simp; omega
    have Hr := hid (show ipEcho b = ([], 13) by unfold ipEcho; rw [if_neg h8, if_pos (by rw [HS2.out]; exact h0)])
    rw [Hr.out]
    go_enter Try.func18, Try.ntmps18
    go_wp2_with ((go_at_call 35; refine (rinet_any _ b _ Hb.out hl).mono ?_; rintro e w' ⟨rfl, rfl⟩); rw [HS.out])
    go_ret2
    exact ⟨_, rfl, OwnBs.nil _ _ _, Below.refl _ _⟩
  subst h0
  obtain ⟨g, off, rfl, hc0⟩ := hc 0 (by omega)
  have hc1 : w.cell? ⟨g, off + 1, none⟩ = some (.int .u8 (b[1].toNat : Int)) := by
    obtain ⟨g', off', e, hc1⟩ := hc 1 (by omega)
    injection e with e
    injection e with e1 e2
    subst e1; subst e2
    exact hc1
  rw [Nat.add_zero] at hc0
  have e0 : b.getD 0 0 = b[0] := by simp [List.getD, show 0 < b.length by omega]
  have e1 : b.getD 1 0 = b[1] := by simp [List.getD, show 1 < b.length by omega]
  have Hd := hid (show ipEcho b = if b[0] ≠ 8 ∨ b[1] ≠ 0 then ([], 3) else (sumAt (b.set 0 0) 2, 0) by
    unfold ipEcho; rw [if_neg h8, if_neg (by rw [HS2.out]; simp), e0, e1])
  clear e0 e1
  have i0 : (0 : Int) < (b.length : Int) := by omega
  have i1 : (1 : Int) < (b.length : Int) := by omega
  have Hform := hid (echo_form b (by omega))
  obtain ⟨x0, hx0⟩ : ∃ x, b[0] = x := ⟨_, rfl⟩
  obtain ⟨x1, hx1⟩ : ∃ x, b[1] = x := ⟨_, rfl⟩
  rw [hx0] at hc0 Hd
  rw [hx1] at hc1 Hd Hform
  clear hx0 hx1 hc
  by_cases q0 : x0 = 8
  case neg =>
    have q0' : ((x0.toNat : Int) != 8) = true := by
      have : x0.toNat ≠ 8 := fun e => q0 (UInt8.toNat_inj.1 e)
      simp; omega
    have Hr := hid (show ipEcho b = ([], 3) by rw [Hd.out, if_pos (.inl q0)])
    clear q0
    rw [Hr.out]
    go_enter Try.func18, Try.ntmps18
    go_wp2_with ((go_at_call 35; refine (rinet_any _ b _ Hb.out hl).mono ?_; rintro e w' ⟨rfl, rfl⟩); rw [HS.out])
    go_ret2
    exact ⟨_, rfl, OwnBs.nil _ _ _, Below.refl _ _⟩
  by_cases q1 : x1 = 0
  case neg =>
    have q1' : ((x1.toNat : Int) != 0) = true := by
      have : x1.toNat ≠ 0 := fun e => q1 (UInt8.toNat_inj.1 e)
      simp; omega
    have Hr := hid (show ipEcho b = ([], 3) by rw [Hd.out, if_pos (.inr q1)])
    subst q0
    have q0' : (((8 : UInt8).toNat : Int) != 8) = false := by decide
    clear q1
    rw [Hr.out]
    go_enter Try.func18, Try.ntmps18
    go_wp2_with ((go_at_call 35; refine (rinet_any _ b _ Hb.out hl).mono ?_; rintro e w' ⟨rfl, rfl⟩); rw [HS.out])
    go_ret2
    exact ⟨_, rfl, OwnBs.nil _ _ _, Below.refl _ _⟩
  subst q0; subst q1
  have Hr := hid (show ipEcho b = (sumAt (b.set 0 0) 2, 0) by rw [Hd.out, if_neg (by simp)])
  have q0' : (((8 : UInt8).toNat : Int) != 8) = false := by decide
  have q1' : (((0 : UInt8).toNat : Int) != 0) = false := by decide
  rw [Hr.out]
  obtain ⟨ii, hii, hz, hss, hby⟩ := info_parts u8info
  have c4 := run_cut_from (P := Try.prog) (T := 23) Try.underlying23 hii (some ⟨g, off, none⟩) b.length cap .i64 4 4 (b.length - 4) rfl (by omega) (by omega)
  rw [hss] at c4
  clear hii hz hss hby
  have B4 := hid (show Bs w (.slice (cutA (some ⟨g, off, none⟩) cap 4 1) (b.length - 4) (cap - 4)) (b.drop 4) by have := Bs.cut (l := 4) (k := b.length - 4) Hb.out (by omega); rwa [List.take_of_length_le (by simp)] at this)
  have hcl : ([0, 0, 0, 0] ++ b.drop 4 : List UInt8).length = b.length := by simp; omega
  have Hsum := hid (show sumAt (b.set 0 0) 2 = (([0, 0, 0, 0] ++ b.drop 4).set 2 (UInt8.ofNat (inet ([0, 0, 0, 0] ++ b.drop 4) / 256))).set (2 + 1) (UInt8.ofNat (inet ([0, 0, 0, 0] ++ b.drop 4))) by
    unfold sumAt; rw [Hform.out rfl])
  generalize hC : [0, 0, 0, 0] ++ b.drop 4 = C at *
  obtain ⟨T, hT⟩ : ∃ T, inet C = T := ⟨_, rfl⟩
  have hT16 : T ≤ 65535 := by rw [← hT]; unfold inet; omega
  have HT := hid hT
  rw [hT] at Hsum
  have HC := hid hC
  have i2 : (2 : Int) < (C.length : Int) := by omega
  have i3 : (3 : Int) < (C.length : Int) := by omega
  have Hcl := hid hcl
  clear hT hC hcl
  go_enter Try.func18, Try.ntmps18
  go_wp2_with (first
    | ((go_at_call 35; refine (rinet_any _ C _ Hown.out.bs (by have := Hcl.out; omega)).mono ?_; rintro e w' ⟨rfl, rfl⟩); rw [HT.out])
    | ((go_at_call 35; refine (rinet_any _ b _ Hb.out hl).mono ?_; rintro e w' ⟨rfl, rfl⟩); rw [HS.out])
    | ((with_reducible show wpList _ _ _ (Oper.mk (some 25) _ _ _ _ _ :: _) _ _); refine wpList_app8 _ rfl _ _ 23 rfl w.heap.size 5 u8ok (.slice (some ⟨w.heap.size, 0, none⟩) 4 4) [0, 0, 0, 0] rfl (ownBs_litH #[.int .u8 0, .int .u8 0, .int .u8 0, .int .u8 0] [0, 0, 0, 0] 4 _ rfl rfl (by decide) rfl (Nat.le_refl _)) _ (b.drop 4) rfl (B4.out.alloc _) (by simp; omega) (by simp) ?_; intro v1 w1 hown1 hb1 hg1 hat1; clear hg1 hat1; rw [HC.out] at hown1; obtain ⟨g1, cap1, rfl, z1, z2, z3⟩ := own_open hown1 (by have := Hcl.out; omega); obtain ⟨y2, f2⟩ := own_cell hown1 2 (by have := Hcl.out; omega); obtain ⟨y3, f3⟩ := own_cell hown1 3 (by have := Hcl.out; omega); have Hown := hid hown1; have Hb1 := hid ((below_alloc w _).trans hb1); clear hown1 hb1))
  go_ret2
  obtain ⟨o1, p1⟩ := own_set Hown.out 2 (UInt8.ofNat (T / 256)) (.int .u8 ((T : Int) / 256)) (u8_hi T hT16)
  obtain ⟨o2, p2⟩ := own_set o1 3 (UInt8.ofNat T) (.int .u8 ((T : Int) % 256)) (u8_lo T)
  exact ⟨_, rfl, by rw [Hsum.out]; exact o2, below_own Hb1.out (grown_trans p1 p2) z2 Hb1.out.size⟩
end Go.Proofs.Ytbjiicnagfeciaa
