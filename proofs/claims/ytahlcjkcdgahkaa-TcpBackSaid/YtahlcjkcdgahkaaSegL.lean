/- A segment that was written is read as it; a turned byte is seen. Plain lists, no program. -/
import Derived.Test.YtahlcjkcdgahkaaSegS
import Derived.Test.YtahlcjkcdgahkaaNumCheckL
namespace Go.Proofs.Ytahlcjkcdgahkaa
open Go Go.RowKit

theorem be2_eq (S : Nat) : beBytes 2 S = [UInt8.ofNat (S / 256), UInt8.ofNat S] := by
  simp [beBytes, List.range_succ]
theorem be4_eq (S : Nat) : beBytes 4 S = [UInt8.ofNat (S / 16777216), UInt8.ofNat (S / 65536), UInt8.ofNat (S / 256), UInt8.ofNat S] := by
  simp [beBytes, List.range_succ]
theorem beVal2 (x : Nat) (h : x < 65536) : beVal [UInt8.ofNat (x / 256), UInt8.ofNat x] = x := by
  simp only [beVal, List.foldl_cons, List.foldl_nil, UInt8.toNat_ofNat']
  omega
theorem beVal4 (x : Nat) (h : x < 4294967296) : beVal [UInt8.ofNat (x / 16777216), UInt8.ofNat (x / 65536), UInt8.ofNat (x / 256), UInt8.ofNat x] = x := by
  simp only [beVal, List.foldl_cons, List.foldl_nil, UInt8.toNat_ofNat']
  omega
/-- a row with its own sum in an even place sums to nought -/
theorem sum_in (P Q : List UInt8) (he : P.length % 2 = 0) : inet (P ++ beBytes 2 (inet (P ++ 0 :: 0 :: Q)) ++ Q) = 0 := by
  have hod : inetOdd false P = false := by rw [inetOdd_len, he]; rfl
  have hacc : ∀ a c : UInt8, inetAcc false 0 (P ++ a :: c :: Q) = inetAcc false (inetAcc false 0 P) Q + (a.toNat * 256 + c.toNat) := by
    intro a c
    rw [inetAcc_append, hod]
    simp only [inetAcc]
    rw [show inetAcc false 0 P + a.toNat * 256 + c.toNat = inetAcc false 0 P + (a.toNat * 256 + c.toNat) by omega, inetAcc_add]
  have h1 : inet (P ++ 0 :: 0 :: Q) = 65535 - fold16 (inetAcc false 0 (P ++ 0 :: 0 :: Q)) := rfl
  have hz : ((0 : UInt8).toNat * 256 + (0 : UInt8).toNat) = 0 := by decide
  rw [hacc, hz] at h1
  rw [be2_eq, List.append_assoc, show [UInt8.ofNat (inet (P ++ 0 :: 0 :: Q) / 256), UInt8.ofNat (inet (P ++ 0 :: 0 :: Q))] ++ Q = UInt8.ofNat (inet (P ++ 0 :: 0 :: Q) / 256) :: UInt8.ofNat (inet (P ++ 0 :: 0 :: Q)) :: Q from rfl]
  rw [inet_zero, hacc]
  generalize inetAcc false (inetAcc false 0 P) Q = A at *
  generalize inet (P ++ 0 :: 0 :: Q) = S at *
  have h2 : (UInt8.ofNat (S / 256)).toNat = S / 256 % 256 := by simp
  have h3 : (UInt8.ofNat S).toNat = S % 256 := by simp
  rw [h2, h3]
  unfold fold16 at h1
  split at h1 <;> omega
/-- what may be written -/
structure SegFit (s : TSeg) : Prop where
  src : 0 ≤ s.src ∧ s.src ≤ 65535
  dst : 0 ≤ s.dst ∧ s.dst ≤ 65535
  seq : s.seq < 4294967296
  ack : s.ack < 4294967296
  flags : 0 ≤ s.flags ∧ s.flags ≤ 31
  window : 0 ≤ s.window ∧ s.window ≤ 65535
  mss : 0 ≤ s.mss ∧ s.mss ≤ 65535
theorem segBytes_form (s : TSeg) : ∃ (H : List UInt8), H.length = 16 ∧ (∀ S, segBytes s S = H ++ beBytes 2 S ++ ([0, 0] ++ (if s.mss = 0 then [] else [2, 4] ++ beBytes 2 s.mss.toNat) ++ s.data)) := by
  refine ⟨beBytes 2 s.src.toNat ++ beBytes 2 s.dst.toNat ++ beBytes 4 s.seq ++ beBytes 4 s.ack ++ [UInt8.ofNat (if s.mss = 0 then 80 else 96), UInt8.ofNat s.flags.toNat] ++ beBytes 2 s.window.toNat, by simp [beBytes_len], fun S => ?_⟩
  unfold segBytes
  simp only [List.append_assoc]
theorem segBytes_length (s : TSeg) (S : Nat) : (segBytes s S).length = (if s.mss = 0 then 20 else 24) + s.data.length := by
  unfold segBytes
  split <;> simp [beBytes_len] <;> omega
theorem segHead_len (src dst n : Nat) : (segHead src dst n).length = 12 := by simp [segHead, beBytes_len]
/-- its sum is right -/
theorem segSum_zero (src dst : Nat) (s : TSeg) : segSum src dst (segBytes s (segSum src dst (segBytes s 0))) = 0 := by
  obtain ⟨H, hH, hf⟩ := segBytes_form s
  obtain ⟨T, hT⟩ : ∃ T, segSum src dst (segBytes s 0) = T := ⟨_, rfl⟩
  have hlen : (segBytes s T).length = (segBytes s 0).length := by rw [segBytes_length, segBytes_length]
  unfold segSum at hT ⊢
  rw [hT, hlen]
  obtain ⟨hd, hhd⟩ : ∃ hd, segHead src dst (segBytes s 0).length = hd := ⟨_, rfl⟩
  have hhl : hd.length = 12 := by rw [← hhd]; exact segHead_len _ _ _
  rw [hhd] at hT ⊢
  rw [hf] at hT ⊢
  generalize ([0, 0] ++ (if s.mss = 0 then [] else [2, 4] ++ beBytes 2 s.mss.toNat) ++ s.data) = Q at *
  have h0 : beBytes 2 0 = [0, 0] := by decide
  rw [h0] at hT
  have e1 : hd ++ (H ++ [0, 0] ++ Q) = (hd ++ H) ++ 0 :: 0 :: Q := by simp
  rw [e1] at hT
  have e2 : hd ++ (H ++ beBytes 2 T ++ Q) = (hd ++ H) ++ beBytes 2 T ++ Q := by simp
  rw [e2, ← hT]
  exact sum_in (hd ++ H) Q (by rw [List.length_append, hhl, hH])
theorem seg_cons (s : TSeg) (S : Nat) : segBytes s S = UInt8.ofNat (s.src.toNat / 256) :: UInt8.ofNat s.src.toNat :: UInt8.ofNat (s.dst.toNat / 256) :: UInt8.ofNat s.dst.toNat ::
    UInt8.ofNat (s.seq / 16777216) :: UInt8.ofNat (s.seq / 65536) :: UInt8.ofNat (s.seq / 256) :: UInt8.ofNat s.seq :: UInt8.ofNat (s.ack / 16777216) :: UInt8.ofNat (s.ack / 65536) :: UInt8.ofNat (s.ack / 256) :: UInt8.ofNat s.ack ::
    UInt8.ofNat (if s.mss = 0 then 80 else 96) :: UInt8.ofNat s.flags.toNat :: UInt8.ofNat (s.window.toNat / 256) :: UInt8.ofNat s.window.toNat :: UInt8.ofNat (S / 256) :: UInt8.ofNat S :: 0 :: 0 :: ((if s.mss = 0 then [] else [2, 4] ++ beBytes 2 s.mss.toNat) ++ s.data) := by
  unfold segBytes
  simp only [be2_eq, be4_eq]
  simp
theorem segParse_back (src dst : Nat) (s : TSeg) (h : SegFit s) : segParse src dst (segBytes s (segSum src dst (segBytes s 0))) = (s, 0) := by
  have hz := segSum_zero src dst s
  generalize segSum src dst (segBytes s 0) = S at *
  have hlen := segBytes_length s S
  have h12 : ((segBytes s S).getD 12 0).toNat / 16 * 4 = if s.mss = 0 then 20 else 24 := by
    rw [seg_cons]
    by_cases hm : s.mss = 0
    · simp only [if_pos hm]
      show (UInt8.ofNat 80).toNat / 16 * 4 = 20
      decide
    · simp only [if_neg hm]
      show (UInt8.ofNat 96).toNat / 16 * 4 = 24
      decide
  unfold segParse
  rw [h12, if_neg (by rw [hlen]; split <;> omega), if_neg (by split <;> omega), if_neg (by rw [hlen]; omega), if_neg (by simpa using hz)]
  have hsrc := h.src
  have hdst := h.dst
  have hw := h.window
  have hfl := h.flags
  have hms := h.mss
  have e1 : sAt (segBytes s S) 0 2 = s.src.toNat := by rw [seg_cons]; exact beVal2 _ (by omega)
  have e2 : sAt (segBytes s S) 2 2 = s.dst.toNat := by rw [seg_cons]; exact beVal2 _ (by omega)
  have e3 : sAt (segBytes s S) 4 4 = s.seq := by rw [seg_cons]; exact beVal4 _ h.seq
  have e4 : sAt (segBytes s S) 8 4 = s.ack := by rw [seg_cons]; exact beVal4 _ h.ack
  have e5 : ((segBytes s S).getD 13 0).toNat % 32 = s.flags.toNat := by
    rw [seg_cons]
    show (UInt8.ofNat s.flags.toNat).toNat % 32 = _
    rw [UInt8.toNat_ofNat']
    omega
  have e6 : sAt (segBytes s S) 14 2 = s.window.toNat := by rw [seg_cons]; exact beVal2 _ (by omega)
  by_cases hm : s.mss = 0
  · have hmo : segMore (segBytes s S) 20 = [] := by unfold segMore; simp
    have hdr : (segBytes s S).drop 20 = s.data := by rw [seg_cons]; simp only [if_pos hm]; rfl
    simp only [if_pos hm, hmo, List.length_nil, segOpts]
    unfold segRead
    rw [e1, e2, e3, e4, e5, e6, hdr]
    obtain ⟨a, b, c, d, f, g, m, q⟩ := s
    simp only at *
    subst hm
    simp only [Prod.mk.injEq, TSeg.mk.injEq, and_true, true_and]
    omega
  · have hmo : segMore (segBytes s S) 24 = [2, 4, UInt8.ofNat (s.mss.toNat / 256), UInt8.ofNat s.mss.toNat] := by
      unfold segMore
      rw [seg_cons]
      simp only [if_neg hm, be2_eq]
      rfl
    have hdr : (segBytes s S).drop 24 = s.data := by rw [seg_cons]; simp only [if_neg hm, be2_eq]; rfl
    have hop : segOpts 4 [2, 4, UInt8.ofNat (s.mss.toNat / 256), UInt8.ofNat s.mss.toNat] 0 0 = some s.mss.toNat := by
      have hs2 : sAt [2, 4, UInt8.ofNat (s.mss.toNat / 256), UInt8.ofNat s.mss.toNat] 2 2 = s.mss.toNat := beVal2 _ (by omega)
      unfold segOpts
      rw [if_neg (by simp), if_neg (by simp), if_neg (by simp), if_neg (by simp)]
      unfold segOpts
      rw [if_pos (by simp)]
      simp only [Nat.zero_add, hs2]
      rfl
    simp only [if_neg hm, hmo]
    rw [show [2, 4, UInt8.ofNat (s.mss.toNat / 256), UInt8.ofNat s.mss.toNat].length = 4 from rfl, hop]
    unfold segRead
    simp only [e1, e2, e3, e4, e5, e6, hdr]
    obtain ⟨a, b, c, d, f, g, m, q⟩ := s
    simp only [Prod.mk.injEq, TSeg.mk.injEq, and_true, true_and] at *
    omega
theorem segParse_turned (src dst : Nat) (s : TSeg) (k : Nat) (y : UInt8) (hk : k < (segBytes s (segSum src dst (segBytes s 0))).length) (hk12 : k ≠ 12) (hy : (segBytes s (segSum src dst (segBytes s 0)))[k] ≠ y) :
    segParse src dst ((segBytes s (segSum src dst (segBytes s 0))).set k y) = (seg0, 13) := by
  have hz := segSum_zero src dst s
  generalize segSum src dst (segBytes s 0) = S at *
  have hlen := segBytes_length s S
  have h12 : ((segBytes s S).getD 12 0).toNat / 16 * 4 = if s.mss = 0 then 20 else 24 := by
    rw [seg_cons]
    by_cases hm : s.mss = 0
    · simp only [if_pos hm]
      show (UInt8.ofNat 80).toNat / 16 * 4 = 20
      decide
    · simp only [if_neg hm]
      show (UInt8.ofNat 96).toNat / 16 * 4 = 24
      decide
  generalize segBytes s S = B at *
  have hg : (B.set k y).getD 12 0 = B.getD 12 0 := by
    rw [List.getD_eq_getElem?_getD, List.getD_eq_getElem?_getD, List.getElem?_set_ne hk12]
  unfold segParse
  rw [hg, h12, List.length_set, if_neg (by rw [hlen]; split <;> omega), if_neg (by split <;> omega), if_neg (by rw [hlen]; omega), if_pos]
  unfold segSum at hz ⊢
  rw [List.length_set, set_split B k y hk, ← List.append_assoc]
  rw [split_at B k hk, ← List.append_assoc] at hz
  have hl2 : (B.take k ++ B[k] :: B.drop (k + 1)).length = B.length := by rw [← split_at B k hk]
  rw [hl2] at hz
  exact inet_turned _ _ _ _ hy hz
end Go.Proofs.Ytahlcjkcdgahkaa
