/- Contracts of ip's sum and Echo, of the document's Echo, of the law's inet. -/
import Derived.Test.YtbjiicnagfeciaaIpL
import Derived.Test.YtbjiicnagfeciaaKept
import Derived.Laws.BitsAllLaws
namespace Go.Proofs.Ytbjiicnagfeciaa
open Go Go.RowKit
set_option maxRecDepth 100000

theorem i64_mask16 (n : Int) : bits .and .i64 n 65535 = n % 65536 := by
  have h127 : (BitVec.ofInt 64 65535).toNat = 2 ^ 16 - 1 := by decide
  have key : (BitVec.ofInt 64 n &&& BitVec.ofInt 64 65535).toNat = (n % ((2 ^ 64 : Nat) : Int)).toNat % 2 ^ 16 := by
    rw [BitVec.toNat_and, BitVec.toNat_ofInt, h127, Nat.and_two_pow_sub_one_eq_mod]
  show IntKind.i64.wrap ((BitVec.ofInt 64 n &&& BitVec.ofInt 64 65535).toNat : Nat) = n % 65536
  rw [key, IntKind.wrap_i64]
  omega
theorem linet_any (v : Value) (bs : List UInt8) (w : World) (h : Bs w v bs) (hl : bs.length ≤ 1099511627776) :
    Calls Try.prog 16 #[v] w fun e w' => e = .returned (.int .u16 (inet bs : Int)) ∧ w = w' := by
  obtain ⟨A, cap, rfl, h1, h2, h3⟩ := h.cells
  clear h
  have K3 := hid h3; clear h3
  go_enter Try.func16, Try.ntmps16
  go_wp2
  go_loop [3, 4] (fun s i => ∃ k : Nat, k ≤ bs.length ∧ i = .int .i64 k ∧ s = .int .i64 (inetAcc false 0 (bs.take k))) (fun _ i => bs.length - (intOf i).toNat)
  case atStart => exact ⟨0, Nat.zero_le _, rfl, rfl⟩
  case round =>
    obtain ⟨k, hk, rfl, rfl⟩ := hrel
    have hb0 : inetAcc false 0 (bs.take k) ≤ 65280 * 1099511627776 := by
      have := inetAcc_le false 0 (bs.take k)
      have h4 : (bs.take k).length ≤ bs.length := by simp; omega
      omega
    by_cases hlt : k < bs.length
    · obtain ⟨b, off, rfl, hcell⟩ := K3.out k hlt
      have hb := bs[k].toNat_lt
      have hS : inetAcc false 0 (bs.take (k + 1)) = inetAcc (inetOdd false (bs.take k)) (inetAcc false 0 (bs.take k)) [bs[k]] := by rw [take_snoc _ _ hlt, inetAcc_append]
      have hod := inetOdd_len false (bs.take k)
      rw [List.length_take, Nat.min_eq_left (by omega)] at hod
      rcases Nat.mod_two_eq_zero_or_one k with h2 | h2
      · have hodd : inetOdd false (bs.take k) = false := by rw [hod, h2]; rfl
        rw [hodd] at hS
        have HS := hid hS
        clear hS hodd hod
        generalize inetAcc false 0 (bs.take k) = S at *
        have hrem : ((k : Int) % 2 == 0) = true := by simp; omega
        clear h2
        go_wp2
        go_round
        case rel => exact ⟨k + 1, by omega, by go_num, by rw [HS.out]; simp [inetAcc]⟩
        case measure => simp [intOf]; omega
      · have hodd : inetOdd false (bs.take k) = true := by rw [hod, h2]; rfl
        rw [hodd] at hS
        have HS := hid hS
        clear hS hodd hod
        generalize inetAcc false 0 (bs.take k) = S at *
        have hrem : ((k : Int) % 2 == 0) = false := by simp; omega
        clear h2
        go_wp2
        go_round
        case rel => exact ⟨k + 1, by omega, by go_num, by rw [HS.out]; simp [inetAcc]⟩
        case measure => simp [intOf]; omega
    · have hall : bs.take k = bs := List.take_of_length_le (by omega)
      rw [hall] at hb0 ⊢
      have Hin := hid (show inet bs = 65535 - fold16 (inetAcc false 0 bs) from rfl)
      clear hall
      generalize inetAcc false 0 bs = S0 at *
      go_wp2
      go_loop [3] (fun s => ∃ S : Nat, S ≤ 65280 * 1099511627776 ∧ fold16 S = fold16 S0 ∧ s = .int .i64 S) (fun s => (intOf s).toNat)
      case atStart => exact ⟨S0, hb0, rfl, rfl⟩
      case round =>
        obtain ⟨S, hS, hf, rfl⟩ := hrel
        have Hf := hid hf; clear hf
        by_cases hf : 65535 < S
        · have hand : bits .and .i64 (S : Int) 65535 = ((S % 65536 : Nat) : Int) := by
            rw [i64_mask16]; omega
          have hne : (S : Int) > 65535 := by omega
          go_wp2
          go_round
          case rel => exact ⟨S % 65536 + S / 65536, by omega, by rw [← fold16_big hf]; exact Hf.out, by go_num⟩
          case measure => simp [intOf]; omega
        · have hfs := fold16_small (n := S) (by omega)
          have hnot := not_u16 S (by omega)
          have hne : ¬ (S : Int) > 65535 := by omega
          go_wp2
          go_ret
          exact ⟨ret_int (by rw [Hin.out, ← Hf.out, hfs]), rfl⟩

/-- a sum in its place -/
def sumAt (b : List UInt8) (i : Nat) : List UInt8 := (((b.set i 0).set (i + 1) 0).set i (UInt8.ofNat (inet ((b.set i 0).set (i + 1) 0) / 256))).set (i + 1) (UInt8.ofNat (inet ((b.set i 0).set (i + 1) 0)))
theorem sumAt_len (b : List UInt8) (i : Nat) : (sumAt b i).length = b.length := by simp [sumAt]
theorem below_grown {w w' : World} (h : Below w.heap.size w w') (row : Option Nat) : w.grownBy w' row := ⟨h.os, h.tape, h.output, h.size, fun k hk _ => h.block k hk⟩
theorem put_two (c : List UInt8) (i S : Nat) (h : i + 2 ≤ c.length) : c.take i ++ (beBytes 2 S ++ c.drop (i + (beBytes 2 S).length)) = (c.set i (UInt8.ofNat (S / 256))).set (i + 1) (UInt8.ofNat S) := by
  have hb : beBytes 2 S = [UInt8.ofNat (S / 256), UInt8.ofNat S] := by simp [beBytes, List.range_succ]
  obtain ⟨P, x, y, Q, rfl, hP⟩ : ∃ P x y Q, c = P ++ x :: y :: Q ∧ P.length = i := by
    refine ⟨c.take i, c[i], c[i + 1], c.drop (i + 2), ?_, by simp; omega⟩
    rw [← List.drop_eq_getElem_cons (by omega), ← List.drop_eq_getElem_cons (by omega), List.take_append_drop]
  rw [hb, List.take_left' hP]
  have e1 : (P ++ x :: y :: Q).drop (i + [UInt8.ofNat (S / 256), UInt8.ofNat S].length) = Q := by
    rw [← hP]; simp [List.drop_append]
  have e2 : (P ++ x :: y :: Q).set i (UInt8.ofNat (S / 256)) = P ++ UInt8.ofNat (S / 256) :: y :: Q := by
    rw [List.set_append_right _ _ (by omega)]; simp [hP]
  have e3 : (P ++ UInt8.ofNat (S / 256) :: y :: Q).set (i + 1) (UInt8.ofNat S) = P ++ UInt8.ofNat (S / 256) :: UInt8.ofNat S :: Q := by
    rw [List.set_append_right _ _ (by omega)]; simp [show i + 1 - P.length = 1 by omega]
  rw [e1, e2, e3]
  rfl

set_option maxHeartbeats 1000000 in
theorem ipsum_any (g cap : Nat) (b : List UInt8) (n i : Nat) (p : Int) (w : World) (base : Nat) (h : OwnBs w base 5 (.slice (some ⟨g, 0, none⟩) n cap) b) (hn : b.length = n) (hp : p = i) (hi : i + 2 ≤ b.length) (hl : b.length ≤ 1099511627776) :
    Calls Try.prog 34 #[.slice (some ⟨g, 0, none⟩) n cap, .int .i64 p] w fun e w' => (∃ u, e = .returned u) ∧
      OwnBs w' base 5 (.slice (some ⟨g, 0, none⟩) n cap) (sumAt b i) ∧ w.grownBy w' (some g) := by
  subst hp
  subst hn
  have Ho := hid h
  obtain ⟨c1, f1⟩ := own_cell h i (by omega)
  obtain ⟨c2, f2⟩ := own_cell h (i + 1) (by omega)
  have n1 : (i : Int) < (b.length : Int) := by omega
  have n2 : (i : Int) + 1 < (b.length : Int) := by omega
  have n3 : (0 : Int) ≤ (i : Int) + 1 := by omega
  have w1 : IntKind.i64.wrap ((i : Int) + 1) = (i : Int) + 1 := IntWalk.i64_in _ (by omega)
  have hlc : b.length ≤ cap := by
    rcases h.2 with ⟨h0, _⟩ | ⟨_, _, _, hv, _, _, h1, _⟩
    · cases h0
    · injection hv with _ _ e3; omega
  obtain ⟨ii, hii, hz, hss, hby⟩ := info_parts u8info
  have c6 := run_tail (P := Try.prog) (T := 23) Try.underlying23 hii hss g b.length cap .i64 (i : Int) i rfl (by omega) hlc (by omega)
  clear hii hz hss hby h
  obtain ⟨hs1, hg1⟩ := own_set Ho.out i 0 (.int .u8 0) rfl
  obtain ⟨hs2, hg2⟩ := own_set hs1 (i + 1) 0 (.int .u8 0) rfl
  have Hc := hid hs2
  have Hg := hid (grown_trans hg1 hg2)
  have hcl : ((b.set i 0).set (i + 1) 0).length = b.length := by simp
  have Hset := hid (put_two ((b.set i 0).set (i + 1) 0) i (inet ((b.set i 0).set (i + 1) 0)) (by omega))
  have Hsum := hid (show sumAt b i = (((b.set i 0).set (i + 1) 0).set i (UInt8.ofNat (inet ((b.set i 0).set (i + 1) 0) / 256))).set (i + 1) (UInt8.ofNat (inet ((b.set i 0).set (i + 1) 0))) from rfl)
  generalize (b.set i 0).set (i + 1) 0 = c at *
  obtain ⟨S, hS⟩ : ∃ S, inet [c].flatten = S := ⟨_, rfl⟩
  have hS2 : inet c = S := by rw [← hS]; simp
  rw [hS2] at Hset Hsum
  have hS16 : S ≤ 65535 := by rw [← hS2]; unfold inet; omega
  have HS := hid hS
  have Hcl := hid hcl
  clear hS hS2 hs1 hs2 hg1 hg2 hcl
  have Hp2 := hid (put_fits beBytes [] 2 2 [S] rfl (by decide) (by simp; omega))
  have He2 := hid (show [] ++ [S].flatMap (beBytes 2) = beBytes 2 S by simp)
  rw [He2.out] at Hp2
  clear He2
  go_enter Try.func34, Try.ntmps34
  go_wp2_with (first
    | ((go_at_call 33; refine (inet_any _ [c] _ (rows_one Hc.out.bs (by simp)) (by simp; have := Hcl.out; omega)).mono ?_; rintro e w' ⟨rfl, rfl⟩); rw [HS.out])
    | ((go_at_call 42; (with_reducible refine (putBe_any _ [] 2 _ [S] _ (Bs.nil _) (u64_lit #[.int .u64 (S : Int)] [S] 1 _ rfl rfl (by simp) (by simp) (by simp; omega)) (by simp)).mono ?_); rintro e w' ⟨v4, rfl, hown4, hb4⟩); rw [Hp2.out] at hown4 ⊢; simp only at hown4 ⊢; have Hk := hid hb4; have Hown4 := hid (((Hc.out.alloc _).alloc _).below hb4); have Hs4 := hid hown4.bs; clear hown4 hb4)
    | ((with_reducible show wpList _ _ _ (Oper.mk (some 26) _ _ _ _ _ :: _) _ _); refine wpList_copy8 rfl _ _ 23 rfl 5 u8ok base g cap c (by rw [Hcl.out]; exact Hown4.out) i _ _ rfl (by rw [Hcl.out]; omega) _ (beBytes 2 S) rfl Hs4.out (by rw [beBytes_len]; omega) ?_; intro w5 hown5 hg5 hsz5; rw [Hset.out, ← Hsum.out, Hcl.out] at hown5; have Hown5 := hid hown5; have Hg5 := hid hg5; clear hown5 hg5 hsz5))
  go_end0
  exact ⟨⟨_, rfl⟩, Hown5.out, grown_trans Hg.out (grown_trans (below_grown (below_alloc' (below_alloc _ _) _) _) (grown_trans (below_grown Hk.out _) Hg5.out))⟩

theorem own_len {w : World} {base n : Nat} {e : TypeId} {A : Option Addr} {cap : Nat} {bs : List UInt8} (h : OwnBs w base e (.slice A n cap) bs) (hn : bs.length = n) : OwnBs w base e (.slice A bs.length cap) bs := by
  subst hn; exact h
def ipEcho (b : List UInt8) : List UInt8 × Int :=
  if b.length < 8 then ([], 11)
  else if inet b ≠ 0 then ([], 13)
  else if b.getD 0 0 ≠ 8 ∨ b.getD 1 0 ≠ 0 then ([], 3)
  else (sumAt (b.set 0 0) 2, 0)

theorem echo_any (v : Value) (b : List UInt8) (w : World) (h : Bs w v b) (hl : b.length ≤ 1099511627776) :
    Calls Try.prog 17 #[v] w fun e w' => ∃ v', e = .returned (.tuple #[v', .int .i64 (ipEcho b).2]) ∧ OwnBs w' w.heap.size 5 v' (ipEcho b).1 ∧ Below w.heap.size w w' := by
  have Hb := hid h
  obtain ⟨A, cap, rfl, k1, k2, hc⟩ := h.cells
  clear h
  by_cases h8 : b.length < 8
  · have h8' : (b.length : Int) < 8 := by omega
    have Hr := hid (show ipEcho b = ([], 11) by unfold ipEcho; rw [if_pos h8])
    rw [Hr.out]
    go_enter Try.func17, Try.ntmps17
    go_wp2_with fail
    go_ret2
    exact ⟨_, rfl, OwnBs.nil _ _ _, Below.refl _ _⟩
  have h8' : ¬ (b.length : Int) < 8 := by omega
  obtain ⟨S, hS⟩ : ∃ S, inet b = S := ⟨_, rfl⟩
  have HS := hid (show inet [b].flatten = S by simpa using hS)
  have HS2 := hid hS
  have hS16 : S ≤ 65535 := by rw [← hS]; unfold inet; omega
  clear hS
  by_cases h0 : S = 0
  case neg =>
    have h0' : ((S : Int) != 0) = true := by simp; omega
    have Hr := hid (show ipEcho b = ([], 13) by unfold ipEcho; rw [if_neg h8, if_pos (by rw [HS2.out]; exact h0)])
    rw [Hr.out]
    go_enter Try.func17, Try.ntmps17
    go_wp2_with ((go_at_call 33; refine (inet_any _ [b] _ (rows_one Hb.out rfl) (by simp; omega)).mono ?_; rintro e w' ⟨rfl, rfl⟩); rw [HS.out])
    go_ret2
    exact ⟨_, rfl, OwnBs.nil _ _ _, below_alloc _ _⟩
  subst h0
  obtain ⟨g, off, rfl, hc0⟩ := hc 0 (by omega)
  have hc1 : w.cell? ⟨g, off + 1, none⟩ = some (.int .u8 (b[1].toNat : Int)) := by
    obtain ⟨g', off', e, hc1⟩ := hc 1 (by omega)
    injection e with e
    injection e with e1 e2
    subst e1; subst e2
    exact hc1
  rw [Nat.add_zero] at hc0
  have e0 : b.getD 0 0 = b[0] := by simp [List.getD, show 0 < b.length by omega]
  have e1 : b.getD 1 0 = b[1] := by simp [List.getD, show 1 < b.length by omega]
  have Hd := hid (show ipEcho b = if b[0] ≠ 8 ∨ b[1] ≠ 0 then ([], 3) else (sumAt (b.set 0 0) 2, 0) by
    unfold ipEcho; rw [if_neg h8, if_neg (by rw [HS2.out]; simp), e0, e1])
  clear e0 e1
  have i0 : (0 : Int) < (b.length : Int) := by omega
  have i1 : (1 : Int) < (b.length : Int) := by omega
  obtain ⟨x0, hx0⟩ : ∃ x, b[0] = x := ⟨_, rfl⟩
  obtain ⟨x1, hx1⟩ : ∃ x, b[1] = x := ⟨_, rfl⟩
  rw [hx0] at hc0 Hd
  rw [hx1] at hc1 Hd
  clear hx0 hx1 hc
  have hc0 := fun o => cell_below (below_alloc w o) hc0
  have hc1 := fun o => cell_below (below_alloc w o) hc1
  by_cases q0 : x0 = 8
  case neg =>
    have q0' : ((x0.toNat : Int) != 8) = true := by
      have : x0.toNat ≠ 8 := fun e => q0 (UInt8.toNat_inj.1 e)
      simp; omega
    have Hr := hid (show ipEcho b = ([], 3) by rw [Hd.out, if_pos (.inl q0)])
    clear q0
    rw [Hr.out]
    go_enter Try.func17, Try.ntmps17
    go_wp2_with ((go_at_call 33; refine (inet_any _ [b] _ (rows_one Hb.out rfl) (by simp; omega)).mono ?_; rintro e w' ⟨rfl, rfl⟩); rw [HS.out])
    go_ret2
    exact ⟨_, rfl, OwnBs.nil _ _ _, below_alloc _ _⟩
  by_cases q1 : x1 = 0
  case neg =>
    have q1' : ((x1.toNat : Int) != 0) = true := by
      have : x1.toNat ≠ 0 := fun e => q1 (UInt8.toNat_inj.1 e)
      simp; omega
    have Hr := hid (show ipEcho b = ([], 3) by rw [Hd.out, if_pos (.inr q1)])
    subst q0
    have q0' : (((8 : UInt8).toNat : Int) != 8) = false := by decide
    clear q1
    rw [Hr.out]
    go_enter Try.func17, Try.ntmps17
    go_wp2_with ((go_at_call 33; refine (inet_any _ [b] _ (rows_one Hb.out rfl) (by simp; omega)).mono ?_; rintro e w' ⟨rfl, rfl⟩); rw [HS.out])
    go_ret2
    exact ⟨_, rfl, OwnBs.nil _ _ _, below_alloc _ _⟩
  subst q0; subst q1
  have Hr := hid (show ipEcho b = (sumAt (b.set 0 0) 2, 0) by rw [Hd.out, if_neg (by simp)])
  have q0' : (((8 : UInt8).toNat : Int) != 8) = false := by decide
  have q1' : (((0 : UInt8).toNat : Int) != 0) = false := by decide
  rw [Hr.out]
  go_enter Try.func17, Try.ntmps17
  go_wp2_with (first
    | ((go_at_call 33; refine (inet_any _ [b] _ (rows_one Hb.out rfl) (by simp; omega)).mono ?_; rintro e w' ⟨rfl, rfl⟩); rw [HS.out])
    | ((go_at_call 30; refine (clone_any _ b _ (Hb.out.alloc _) (by omega)).mono ?_; rintro e w' ⟨v1, rfl, hown, hb1⟩); obtain ⟨g1, cap1, rfl, z1, z2, z3⟩ := own_open hown (by omega); obtain ⟨y0, y1⟩ := own_cell hown 0 (by omega); have Hown := hid (own_set hown 0 0 (.int .u8 0) rfl).1; have Hg1 := hid (own_set hown 0 0 (.int .u8 0) rfl).2; have Hb1 := hid ((below_alloc w _).trans (hb1.mono (by simp))); clear hown hb1)
    | ((go_at_call 34; refine (ipsum_any g1 cap1 (b.set 0 0) b.length 2 2 _ _ (by have := Hown.out; simpa using this) (by simp) rfl (by simp; omega) (by simp; omega)).mono ?_; rintro e w' ⟨⟨u, rfl⟩, hown2, hg2⟩); have Hown2 := hid hown2; have Hg2 := hid hg2; clear hown2 hg2))
  go_ret2
  have hl2 : (sumAt (b.set 0 0) 2).length = b.length := by simp [sumAt_len]
  exact ⟨_, rfl, by have := Hown2.out; unfold OwnBs at this ⊢; rw [hl2] at this ⊢; exact own_mono this (by simp), below_own Hb1.out (grown_trans Hg1.out Hg2.out) (by simp at z2; omega) Hb1.out.size⟩

end Go.Proofs.Ytbjiicnagfeciaa
