/- Contracts of num: Inet, Crc, size, cut, Le, Be. -/
import Derived.Test.YtgiegiobigdplaaNumSpec
import Derived.Test.YtgiegiobigdplaaProg
namespace Go.Proofs.Ytgiegiobigdplaa
open Go Go.RowKit
set_option maxRecDepth 100000
theorem size_any (n : Int) (w : World) : Calls Try.prog 71 #[.int .i64 n] w fun e w' => e = .returned (.bool (okSize n)) ∧ w = w' := by
  unfold okSize
  by_cases h1 : n = 1
  · subst h1; go_enter Try.func71, Try.ntmps71; go_wp2; go_ret; exact ⟨rfl, rfl⟩
  by_cases h2 : n = 2
  · subst h2; go_enter Try.func71, Try.ntmps71; go_wp2; go_ret; exact ⟨rfl, rfl⟩
  by_cases h4 : n = 4
  · subst h4; go_enter Try.func71, Try.ntmps71; go_wp2; go_ret; exact ⟨rfl, rfl⟩
  by_cases h8 : n = 8
  · subst h8; go_enter Try.func71, Try.ntmps71; go_wp2; go_ret; exact ⟨rfl, rfl⟩
  have e1 : (n == 1) = false := by simp [h1]
  have e2 : (n == 2) = false := by simp [h2]
  have e4 : (n == 4) = false := by simp [h4]
  have e8 : (n == 8) = false := by simp [h8]
  go_enter Try.func71, Try.ntmps71
  go_wp2
  go_ret
  exact ⟨ret_bool (by rw [e1, e2, e4, e8]; rfl), rfl⟩

/-- []byte and byte in the table -/
theorem u8info : (Try.prog.info? 5).map (fun i => (i.zero, i.size, i.bytes)) = some (some (.int .u8 0), 1, 1) := by kernel_rfl
theorem u8ok : ElemOk Try.prog 25 5 (.int .u8 0) 1 1 := by
  obtain ⟨i, hi, hz, hs, hb⟩ := info_parts u8info
  exact ⟨Try.underlying25, ⟨i, hi, hz, hs, hb⟩, rfl, by decide, by decide⟩

theorem cut_any (v : Value) (b : List UInt8) (at_ n : Int) (w : World) (h : Bs w v b) (h1 : -9223372036854775808 ≤ at_) (h2 : at_ ≤ 9223372036854775807) :
    Calls Try.prog 68 #[v, .int .i64 at_, .int .i64 n] w fun e w' => ∃ v', e = .returned (.tuple #[v', .int .i64 (cutOf b at_ n).2]) ∧ Bs w v' (cutOf b at_ n).1 ∧ w = w' := by
  obtain ⟨A, cap, rfl, k1, k2, _⟩ := h.cells
  have Hb := hid h; clear h
  obtain ⟨i, hi, hz, hs, hb⟩ := info_parts u8info
  by_cases hn : okSize n = true
  · have hsz := okSize_le hn
    by_cases hbad : at_ < 0 ∨ at_ > (b.length : Int) - n
    · have hr : cutOf b at_ n = ([], 11) := by simp [cutOf, hn, hbad]
      have Hr := hid hr; clear hr
      have Hn := hid hn; clear hn
      rcases hbad with hbad | hbad
      · have hd : decide (at_ < 0) = true := by simpa using hbad
        go_enter Try.func68, Try.ntmps68
        go_wp2_with (go_at_call 71; refine (size_any _ _).mono ?_; rintro e w' ⟨rfl, rfl⟩; rw [Hn.out])
        go_ret2
        exact ⟨_, by rw [Hr.out]; rfl, by rw [Hr.out]; exact Bs.nil _, rfl⟩
      · by_cases hneg : at_ < 0
        · have hd : decide (at_ < 0) = true := by simpa using hneg
          go_enter Try.func68, Try.ntmps68
          go_wp2_with (go_at_call 71; refine (size_any _ _).mono ?_; rintro e w' ⟨rfl, rfl⟩; rw [Hn.out])
          go_ret2
          exact ⟨_, by rw [Hr.out]; rfl, by rw [Hr.out]; exact Bs.nil _, rfl⟩
        · have hd : decide (at_ < 0) = false := by simpa using hneg
          go_enter Try.func68, Try.ntmps68
          go_wp2_with (go_at_call 71; refine (size_any _ _).mono ?_; rintro e w' ⟨rfl, rfl⟩; rw [Hn.out])
          go_ret2
          exact ⟨_, by rw [Hr.out]; rfl, by rw [Hr.out]; exact Bs.nil _, rfl⟩
    · have hr : cutOf b at_ n = ((b.drop at_.toNat).take n.toNat, 0) := by simp only [cutOf, hn, if_neg hbad]; rfl
      have Hr := hid hr; clear hr
      have Hn := hid hn; clear hn
      have hd : decide (at_ < 0) = false := by simp; omega
      have hcut := run_cut (P := Try.prog) (T := 25) Try.underlying25 hi A b.length cap .i64 .i64 at_ (at_ + n) at_.toNat n.toNat (by omega) (by omega) (by omega)
      go_enter Try.func68, Try.ntmps68
      go_wp2_with (go_at_call 71; refine (size_any _ _).mono ?_; rintro e w' ⟨rfl, rfl⟩; rw [Hn.out])
      go_ret2

      exact ⟨_, by rw [Hr.out]; rfl, by rw [Hr.out]; exact hs ▸ Bs.cut Hb.out (by omega), rfl⟩
  · have hr : cutOf b at_ n = ([], 1) := by simp [cutOf, hn]
    have hn' : okSize n = false := by simpa using hn
    have Hn := hid hn'; clear hn hn'
    have Hr := hid hr; clear hr
    go_enter Try.func68, Try.ntmps68
    go_wp2_with (go_at_call 71; refine (size_any _ _).mono ?_; rintro e w' ⟨rfl, rfl⟩; rw [Hn.out])
    go_ret2
    exact ⟨_, by rw [Hr.out]; rfl, by rw [Hr.out]; exact Bs.nil _, rfl⟩
end Go.Proofs.Ytgiegiobigdplaa
