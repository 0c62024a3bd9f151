/- The walk of NumCheck. -/
import Derived.Test.YtgmeogcgcabjoaaNumL
import Derived.Test.YtgmeogcgcabjoaaNumCheckL
import Derived.Deep.Cut
import Derived.Deep.CutRange
namespace Go.Proofs.Ytgmeogcgcabjoaa
open Go Go.RowKit

theorem ownBs_litN {w : World} {base : Nat} {e : TypeId} (cs : Array Value) (bs : List UInt8) (n H : Nat) (hx : cs.toList = bs.map u8v) (hn : bs.length = n) (hm : n ≤ 65536) (hH : H = w.heap.size) (hb : base ≤ H) :
    OwnBs (w.alloc (.cells cs e)) base e (.slice (some ⟨H, 0, none⟩) n n) bs := by
  subst hn; subst hH
  exact ownBs_lit cs bs hx hb hm
theorem cell_own {w : World} {base g cap : Nat} {e : TypeId} {bs : List UInt8} (h : OwnBs w base e (.slice (some ⟨g, 0, none⟩) bs.length cap) bs) (k : Nat) (hk : k < bs.length) : w.cell? ⟨g, k, none⟩ = some (.int .u8 (bs[k].toNat : Int)) := by
  rw [World.ownsRow.cellAt h k (by omega)]
  simp [hk]
theorem shift_bit (t : Int) : ∃ mm : Nat, mm < 8 ∧ (IntKind.u64.wrap t).tmod 8 = (mm : Int) := by
  rw [IntKind.wrap_u64, tmod_of_emod]
  refine ⟨(t % 18446744073709551616 % 8).toNat, by omega, by omega⟩
theorem ownBs_set {w : World} {base g cap : Nat} {e : TypeId} {bs : List UInt8} (h : OwnBs w base e (.slice (some ⟨g, 0, none⟩) bs.length cap) bs) (k : Nat) (y : UInt8) :
    OwnBs (w.setCell ⟨g, k, none⟩ (u8v y)) base e (.slice (some ⟨g, 0, none⟩) bs.length cap) (bs.set k y) := by
  have := (World.ownsRow.stored h k (u8v y)).1
  rw [← List.map_set] at this
  unfold OwnBs
  rw [List.length_set]
  exact this
theorem flip_val (x : UInt8) (mm : Nat) (h : mm < 8) : bits .xor .u8 (x.toNat : Int) (2 ^ mm % 256) = ((UInt8.ofNat (x.toNat ^^^ 2 ^ mm)).toNat : Int) := by
  have h1 : 2 ^ mm < 256 := Nat.pow_lt_pow_right (by decide) h
  have h2 : x.toNat ^^^ 2 ^ mm < 256 := Nat.xor_lt_two_pow (n := 8) x.toNat_lt h1
  have h3 : ((2 : Int) ^ mm % 256) = ((2 ^ mm : Nat) : Int) := by
    rw [show (2 : Int) = ((2 : Nat) : Int) from rfl, ← Int.natCast_pow, show (256 : Int) = ((256 : Nat) : Int) from rfl, ← Int.natCast_emod, Nat.mod_eq_of_lt h1]
  rw [h3, u8_xor_nat _ _ x.toNat_lt h1, UInt8.toNat_ofNat', Nat.mod_eq_of_lt h2]
theorem inet_le (l : List UInt8) : inet l ≤ 65535 := by unfold inet; omega
theorem tmod_lt (i : Int) (n : Nat) (h : 0 < n) : -(n : Int) < i.tmod n ∧ i.tmod n < n := by
  have h1 : (i.tmod (n : Int)).natAbs < n := by
    rw [Int.natAbs_tmod]
    exact Nat.mod_lt _ (by omega)
  omega
set_option maxHeartbeats 1000000 in
theorem numCheck_walk (v : Value) (b : List UInt8) (p t : Int) (w : World) (h : Bs w v b) :
    Calls Try.prog 5 #[v, .int .i64 p, .int .i64 t] w fun e w' => e = .returned (.bool true) ∧ Below w.heap.size w w' := by
  have Hb := hid h
  obtain ⟨A, cap, rfl, k1, k2, _⟩ := h.cells
  clear h
  by_cases hbig : 16384 < b.length
  · have hd : decide ((16384 : Int) < (b.length : Int)) = true := by simp; omega
    go_enter Try.func5, Try.ntmps5
    go_wp2_with ((go_at_call 9; refine (known_any _).mono ?_; rintro e w' ⟨rfl, hb2⟩); have Hb3 := hid hb2; clear hb2)
    go_ret
    exact ⟨rfl, Hb3.out⟩
  by_cases hsm : b.length < 2
  · have hd : decide ((16384 : Int) < (b.length : Int)) = false := by simp; omega
    have hd2 : decide ((b.length : Int) < 2) = true := by simp; omega
    go_enter Try.func5, Try.ntmps5
    go_wp2_with ((go_at_call 9; refine (known_any _).mono ?_; rintro e w' ⟨rfl, hb2⟩); have Hb3 := hid hb2; clear hb2)
    go_ret
    exact ⟨rfl, Hb3.out⟩
  · have hd : decide ((16384 : Int) < (b.length : Int)) = false := by simp; omega
    have hd2 : decide ((b.length : Int) < 2) = false := by simp; omega
    obtain ⟨ii, hii, hz, hs, hby⟩ := info_parts u8info
    obtain ⟨m, hm⟩ : ∃ m : Nat, b.length / 2 * 2 = m := ⟨_, rfl⟩
    have hm1 : (b.length : Int) / 2 * 2 = (m : Int) := by omega
    have hm2 : m ≤ b.length := by omega
    have hm3 : 2 ≤ m := by omega
    have hm4 := hid (show m % 2 = 0 by omega)
    have c1 := run_cut_to (P := Try.prog) (T := 24) Try.underlying24 hii A b.length cap .i64 m m rfl (by omega)
    rw [hs] at c1
    have Hb1 := hid (show Bs w (.slice (cutA A cap 0 1) m cap) (b.take m) by have := Bs.cut (l := 0) (k := m) Hb.out (by omega); simpa using this)
    have hlen : (b.take m).length = m := by simp; omega
    clear hii hz hs hby hm
    generalize b.take m = c at *
    have hin := inet_le c
    have Hput := hid (show putOf beBytes c 2 [inet c] = (c ++ beBytes 2 (inet c), 0) by
      have hf : fitsOne 2 (inet c) = true := by
        have : inet c / 256 ^ 2 = 0 := Nat.div_eq_of_lt (by omega)
        simp [fitsOne, this]
      have : fitsB 2 [inet c] = true := by simp [fitsB, okSize, hf]
      simp [putOf, this])
    have Hz := hid (inet_own c (by rw [hlen]; exact hm4.out))
    have Hclen := hid (show (c ++ beBytes 2 (inet c)).length = m + 2 by simp [beBytes, hlen])
    have Hflat := hid (show ∀ l : List UInt8, [l].flatten = l by simp)
    have hP := tmod_lt p m (by omega)
    obtain ⟨mm, hm8, hmm⟩ := shift_bit t
    go_enter Try.func5, Try.ntmps5
    go_wp2_with ((go_at_call 9; refine (known_any _).mono ?_; rintro e w' ⟨rfl, hb2⟩); have Hb3 := hid hb2; have Hb4 := hid (Hb1.out.below hb2); clear hb2)
    refine (inet_any _ [c] _ (rows_one Hb4.out rfl) (by simp; omega)).mono ?_
    rintro e w2 ⟨rfl, rfl⟩
    rw [Hflat.out]
    go_wp2_with fail
    refine (putBe_any _ c _ _ [inet c] _ ((Hb4.out.alloc _).alloc _) (u64_lit #[.int .u64 (inet c : Int)] [inet c] _ _ rfl rfl (by simp) (by simp) (by simp; omega)) (by simp; omega)).mono ?_
    rintro e w2 ⟨v1, rfl, hown, hb5⟩
    rw [Hput.out] at hown ⊢
    have Hown := hid hown
    have Hb5 := hid ((below_alloc' (below_alloc' Hb3.out _) _).trans (hb5.mono (by have := Hb3.out.size; simp; omega)))
    clear hown hb5
    simp only at Hown ⊢
    generalize c ++ beBytes 2 (inet c) = d at *
    have hdl : d.length ≤ 16386 ∧ m < d.length := by have := Hclen.out; omega
    obtain ⟨A1, cap1, rfl, n1, n2, _⟩ := Hown.out.bs.cells
    go_wp2_with fail
    refine (inet_any _ [d] _ (rows_one Hown.out.bs rfl) (by simp; omega)).mono ?_
    rintro e w3 ⟨rfl, rfl⟩
    rw [Hflat.out, Hz.out]
    go_upto_if 50 with (fail)
    generalize p.tmod (m : Int) = P at *
    go_cut [9] from 49 to 52 (fun s w2' => w2' = w2.alloc (.cells #[.slice A1 d.length cap1] 24) ∧ ∃ p : Nat, p < m ∧ s = .int .i64 p)
    case first =>
      by_cases hneg : P < 0
      all_goals
        go_wp2_with fail
        go_meet
        case rel => exact ⟨rfl, P.natAbs, by omega, val_int (by omega)⟩
    case rest =>
    obtain ⟨rfl, k, hk, rfl⟩ := hcut
    have Hd2 := hid (Hown.out.bs.alloc (.cells #[.slice A1 d.length cap1] 24))
    obtain ⟨y, hy⟩ : ∃ y, y = UInt8.ofNat (d[k].toNat ^^^ 2 ^ mm) := ⟨_, rfl⟩
    have hX : bits .xor .u8 (d[k].toNat : Int) (2 ^ mm % 256) = (y.toNat : Int) := by rw [hy]; exact flip_val d[k] mm hm8
    have Hne := hid (show d[k] ≠ y by rw [hy]; exact byte_flip d[k] mm hm8)
    clear hy
    go_wp2_with ((with_reducible show wpList _ _ _ (Oper.mk (some 55) _ _ _ _ _ :: _) _ _); refine wpList_app8 _ rfl (.tmp 53) (.tmp 54) 24 rfl w2.heap.size 5 u8ok _ [] rfl (ownBs_litN #[] [] _ _ rfl rfl (by simp) (by simp) (by omega)) _ d rfl (Hd2.out.alloc _) (by simp; omega) (by simp; omega) ?_; intro v3 w3 hown3 hb6 hg6 hat6; rw [List.nil_append] at hown3; rcases hown3.2 with ⟨_, h0⟩ | ⟨g, cap3, cur3, rfl, hbg, hgg, hnc, hcm, hcs, htk⟩; (exfalso; omega); have Hown3 := hid hown3; have Hb6 := hid ((below_alloc' (below_alloc' (Below.refl _ w2) _) _).trans hb6); clear hown3 hb6 hg6 hat6 hgg hcs htk; have hck := cell_own Hown3.out k (by omega); have hfk := World.ownsRow.frozenAt Hown3.out k)
    have Hset := hid (ownBs_set Hown3.out k y)
    have Hb7 := hid (Hb6.out.setCell (p := ⟨g, k, none⟩) hbg (u8v y))
    have Hd7 := hid (Hown.out.bs.below Hb7.out)
    have hk2 : k < d.length := by omega
    have Hin := hid (show inet (d.set k y) ≠ 0 by
      have h1 := Hz.out
      rw [set_split d k y hk2]
      rw [split_at d k hk2] at h1
      exact inet_turned _ _ _ _ Hne.out h1)
    have Hcr := hid (show crc (d.set k y) ≠ crc d by
      have h1 := crc_turned (d.take k) (d.drop (k + 1)) _ _ Hne.out
      rw [← split_at d k hk2, ← set_split d k y hk2] at h1
      exact fun e => h1 e.symm)
    refine (inet_any _ [d.set k y] _ (rows_one Hset.out.bs (by simp)) (by simp; omega)).mono ?_
    rintro e w4 ⟨rfl, rfl⟩
    rw [Hflat.out]
    have hne1 : ((inet (d.set k y) : Int) != 0) = true := by rw [bne_iff_ne]; have := Hin.out; omega
    go_wp2_with fail
    refine (crc_any _ [d.set k y] _ (rows_one (Hset.out.bs.alloc _) (by simp))).mono ?_
    rintro e w4 ⟨rfl, rfl⟩
    rw [Hflat.out]
    go_wp2_with fail
    refine (crc_any _ [d] _ (rows_one ((Hd7.out.alloc _).alloc _) (by simp))).mono ?_
    rintro e w4 ⟨rfl, rfl⟩
    rw [Hflat.out]
    have hne2 : ((crc (d.set k y) : Int) != (crc d : Int)) = true := by rw [bne_iff_ne]; have := Hcr.out; omega
    go_wp2_with fail
    go_ret
    exact ⟨rfl, below_alloc' (below_alloc' (below_alloc' (Hb5.out.trans (Hb7.out.mono Hb5.out.size)) _) _) _⟩
end Go.Proofs.Ytgmeogcgcabjoaa
