/- The walk of IpBack. -/
import Derived.Test.YtbjiicnagfeciaaIpLaw
import Derived.Test.YtbjiicnagfeciaaIpPB
import Derived.Test.YtbjiicnagfeciaaIpL
import Derived.Test.YtbjiicnagfeciaaKept
namespace Go.Proofs.Ytbjiicnagfeciaa
open Go Go.RowKit
attribute [local go_sem ↓] Go.wp_at_zero Go.wp_at_succ
set_option maxRecDepth 100000

theorem within_any (at_ : Int) (n : Nat) (w : World) (hn : 0 < n) (hn2 : n ≤ 1099511627776) :
    Calls Try.prog 19 #[.int .i64 at_, .int .i64 n] w fun e w' => ∃ k : Nat, k < n ∧ e = .returned (.int .i64 k) ∧ w = w' := by
  have hb : (at_.tmod (n : Int)).natAbs < n := by rw [Int.natAbs_tmod]; exact Nat.mod_lt _ (by omega)
  have hne : (n : Int) ≠ 0 := by omega
  go_enter Try.func19, Try.ntmps19
  by_cases hneg : at_.tmod (n : Int) < 0
  · have hw : IntKind.i64.wrap (at_.tmod (n : Int)) = at_.tmod (n : Int) := IntWalk.i64_in _ (by omega)
    go_wp2_with fail
    go_ret
    exact ⟨(at_.tmod (n : Int) + n).toNat, by omega, ret_int (by omega), rfl⟩
  · have hw : IntKind.i64.wrap (at_.tmod (n : Int)) = at_.tmod (n : Int) := IntWalk.i64_in _ (by omega)
    go_wp2_with fail
    go_ret
    exact ⟨(at_.tmod (n : Int)).toNat, by omega, ret_int (by omega), rfl⟩

theorem within_at (at_ nI : Int) (n : Nat) (w : World) (h : nI = n) (hn : 0 < n) (hn2 : n ≤ 1099511627776) :
    Calls Try.prog 19 #[.int .i64 at_, .int .i64 nI] w fun e w' => ∃ k : Nat, k < n ∧ e = .returned (.int .i64 k) ∧ w = w' := by
  subst h
  exact within_any at_ n w hn hn2

theorem flip_u8 (x : UInt8) (mm : Nat) (h : mm < 8) : Value.int .u8 (bits .xor .u8 (x.toNat : Int) (IntKind.u8.wrap (2 ^ mm))) = u8v (UInt8.ofNat (x.toNat ^^^ 2 ^ mm)) := by
  have h1 : 2 ^ mm < 256 := Nat.pow_lt_pow_right (by decide) h
  have h2 : x.toNat ^^^ 2 ^ mm < 256 := Nat.xor_lt_two_pow (n := 8) x.toNat_lt h1
  have h3 : IntKind.u8.wrap ((2 : Int) ^ mm) = ((2 ^ mm : Nat) : Int) := by
    have e : (2 : Int) ^ mm = ((2 ^ mm : Nat) : Int) := by simp
    rw [IntKind.wrap_u8, e]
    clear h2 e
    generalize 2 ^ mm = z at h1 ⊢
    omega
  rw [h3, u8_xor_nat _ _ x.toNat_lt h1, u8v, UInt8.toNat_ofNat', Nat.mod_eq_of_lt h2]

theorem bs_len {w : World} {A : Option Addr} {n cap : Nat} {bs : List UInt8} (h : Bs w (.slice A n cap) bs) (hn : bs.length = n) : Bs w (.slice A bs.length cap) bs := by
  subst hn; exact h
/-- a right echo: what is answered -/
theorem bs_cap {w : World} {A : Option Addr} {n cap : Nat} {bs : List UInt8} (h : Bs w (.slice A n cap) bs) : n ≤ cap := by
  obtain ⟨A', c, hv, k1, _⟩ := h.cells
  injection hv with e1 e2 e3
  omega
theorem ipWrite_err (p : Pk) (h : (ipWrite p).2 ≠ 0) : ipWrite p = ([], (ipWrite p).2) := by
  revert h
  unfold ipWrite
  split
  · intro _; rfl
  · split
    · intro _; rfl
    · split
      · intro _; rfl
      · intro h; exact absurd rfl h
theorem ipWrite_ok_of (p : Pk) (h : ¬ (ipWrite p).2 ≠ 0) : ipWrite p = (ipFull p, 0) ∧ ¬ ipBadArg p ∧ p.body.length ≤ 65515 := by
  revert h
  unfold ipWrite
  split
  · intro h; exact absurd (by decide) h
  · split
    · intro h; exact absurd (by decide) h
    · split
      · intro h; exact absurd (by decide) h
      · rename_i h1 _ h3
        intro _; exact ⟨rfl, h1, by omega⟩

set_option maxHeartbeats 8000000 in
theorem ipBack_walk (v : Value) (p : Pk) (vm : Value) (mr : List UInt8) (at_ bit : Int) (w : World) (h : Bs w v p.body) (h2 : Bs w vm mr) (hs : p.src < 4294967296) (hd : p.dst < 4294967296) :
    Calls Try.prog 7 #[.agg (pkCells p v).toArray, vm, .int .i64 at_, .int .i64 bit] w fun e w' => e = .returned (.bool true) ∧ Below w.heap.size w w' := by
  obtain ⟨src, dst, proto, id, off, more, whole, ttl, body⟩ := p
  have HB := hid h
  have HD := hid h2
  obtain ⟨n, hn⟩ : ∃ n, mr.length = n := ⟨_, rfl⟩
  obtain ⟨m, hm⟩ : ∃ n, body.length = n := ⟨_, rfl⟩
  obtain ⟨A, cap, rfl⟩ := slice_len h hm
  obtain ⟨A0, cap0, rfl⟩ := slice_len h2 hn
  clear h h2
  simp only at HB hs hd
  dsimp only [pkCells]
  have K0 := hid (((Kept.new w).add HB.out).add HD.out)
  have Hn := hid hn
  have Hm := hid hm
  clear hn hm
  by_cases hbig : m > 70000
  · have g1 : (m : Int) > 70000 := by omega
    go_enter Try.func7, Try.ntmps7
    go_wp2_with ((go_at_call 10; refine (known_any _).mono ?_; rintro e w' ⟨rfl, hb1⟩); have K1 := hid (((K0.out.step (below_alloc w _)).addB (Blk.new w 25 #[.int .u32 (src : Int), .int .u32 (dst : Int), .int .i64 proto, .int .i64 id, .int .i64 off, .bool more, .bool whole, .int .i64 ttl, .slice A m cap])).step hb1); have hc8 := (K1.out.b 0 rfl).cell 8; clear hb1)
    go_ret
    exact ⟨rfl, K1.out.bel⟩
  have g1 : ¬ (m : Int) > 70000 := by omega
  by_cases hbig2 : n > 5000
  · have g2 : (n : Int) > 5000 := by omega
    go_enter Try.func7, Try.ntmps7
    go_wp2_with ((go_at_call 10; refine (known_any _).mono ?_; rintro e w' ⟨rfl, hb1⟩); have K1 := hid (((K0.out.step (below_alloc w _)).addB (Blk.new w 25 #[.int .u32 (src : Int), .int .u32 (dst : Int), .int .i64 proto, .int .i64 id, .int .i64 off, .bool more, .bool whole, .int .i64 ttl, .slice A m cap])).step hb1); have hc8 := (K1.out.b 0 rfl).cell 8; clear hb1)
    go_ret
    exact ⟨rfl, K1.out.bel⟩
  have g2 : ¬ (n : Int) > 5000 := by omega
  have Hl1 := hid (show body.length ≤ 1099511627776 by rw [Hm.out]; omega)
  by_cases hno : (ipWrite (⟨src, dst, proto, id, off, more, whole, ttl, body⟩ : Pk)).2 ≠ 0
  · have HW := hid (ipWrite_err _ hno)
    have hne : ((ipWrite (⟨src, dst, proto, id, off, more, whole, ttl, body⟩ : Pk)).2 != 0) = true := by simpa using hno
    generalize (ipWrite (⟨src, dst, proto, id, off, more, whole, ttl, body⟩ : Pk)).2 = qe at *
    clear hno
    go_enter Try.func7, Try.ntmps7
    go_wp2_with (first
      | ((go_at_call 10; refine (known_any _).mono ?_; rintro e w' ⟨rfl, hb1⟩); have K1 := hid (((K0.out.step (below_alloc w _)).addB (Blk.new w 25 #[.int .u32 (src : Int), .int .u32 (dst : Int), .int .i64 proto, .int .i64 id, .int .i64 off, .bool more, .bool whole, .int .i64 ttl, .slice A m cap])).step hb1); have hc8 := (K1.out.b 0 rfl).cell 8; clear hb1)
      | ((with_reducible show wpList _ _ _ (Oper.mk (some 31) _ _ _ _ _ :: _) _ _); refine wpList_loadBlk rfl _ _ rfl _ rfl _ _ _ (K1.out.b 0 rfl) Try.underlying25 pkinfo ?_)
      | ((go_at_call 24; refine (ipWrite_any _ (⟨src, dst, proto, id, off, more, whole, ttl, body⟩ : Pk) _ (K1.out.r 1 rfl) Hl1.out hs hd).mono ?_; rintro e w' ⟨v8, rfl, hown, hb⟩); rw [HW.out] at hown ⊢; simp only at hown ⊢; obtain ⟨A3, cap3, rfl⟩ := slice_len hown.bs rfl; have K2 := hid (K1.out.step hb); clear hown hb))
    go_ret
    exact ⟨rfl, K2.out.bel⟩
  obtain ⟨hw1, hw2, hw3⟩ := ipWrite_ok_of _ hno
  have hok : IpOk (⟨src, dst, proto, id, off, more, whole, ttl, body⟩ : Pk) := ⟨hs, hd, hw2, hw3⟩
  have HW := hid hw1
  obtain ⟨q, hq⟩ : ∃ q, 20 + m = q := ⟨_, rfl⟩
  have HBl := hid (show (ipFull (⟨src, dst, proto, id, off, more, whole, ttl, body⟩ : Pk)).length = q by rw [ipFull_len, ← hq, ← Hm.out])
  have hq20 : 20 ≤ q := by omega
  have hqu : q ≤ 65535 := by rw [← hq, ← Hm.out]; exact Nat.add_le_add_left hw3 20
  clear hq
  have HP1 := hid (ip_back hok mr)
  have HP2 := hid (fun k hk => ip_cut hok k hk)
  have HP3 := hid (show ∀ (k : Nat) (y : UInt8), 1 ≤ k → k < 20 → ∀ hk2 : k < (ipFull (⟨src, dst, proto, id, off, more, whole, ttl, body⟩ : Pk)).length, (ipFull (⟨src, dst, proto, id, off, more, whole, ttl, body⟩ : Pk))[k] ≠ y → ∃ c1 : Int, (c1 != 0) = true ∧ Hid ((ipParse ((ipFull (⟨src, dst, proto, id, off, more, whole, ttl, body⟩ : Pk)).set k y)).2 = c1) from
    fun k y a b c d => ⟨_, by simpa using ip_turned hok k y a b c d, hid rfl⟩)
  clear hok hw1 hw2 hno
  obtain ⟨ii, hii, hz, hss, hby⟩ := info_parts u8info
  clear hz hby
  have Hw3 := hid (show m ≤ 65515 by rw [← Hm.out]; exact hw3)
  clear hw3
  generalize ipFull (⟨src, dst, proto, id, off, more, whole, ttl, body⟩ : Pk) = B at *
  have ht : off = 0 ∧ more = false ∨ off = 0 ∧ more = true ∨ ¬ off = 0 := by
    by_cases y8 : off = 0
    · cases more
      · exact .inl ⟨y8, rfl⟩
      · exact .inr (.inl ⟨y8, rfl⟩)
    · exact .inr (.inr y8)
  rcases ht with ⟨rfl, rfl⟩ | ⟨rfl, rfl⟩ | y8
  · have HP1 := hid (show ipParse (B ++ mr) = (⟨src, dst, proto, id, 0, false, true, ttl, body⟩, 0) by rw [HP1.out]; rfl)
    go_enter Try.func7, Try.ntmps7
    go_upto_region 13 with (first | ((go_at_call 10; refine (known_any _).mono ?_; rintro e w' ⟨rfl, hb1⟩); have K1 := hid (((K0.out.step (below_alloc w _)).addB (Blk.new w 25 #[.int .u32 (src : Int), .int .u32 (dst : Int), .int .i64 proto, .int .i64 id, .int .i64 0, .bool false, .bool whole, .int .i64 ttl, .slice A m cap])).step hb1); have hc8 := (K1.out.b 0 rfl).cell 8; clear hb1) | ((with_reducible show wpList _ _ _ (Oper.mk (some 31) _ _ _ _ _ :: _) _ _); refine wpList_loadBlk rfl _ _ rfl _ rfl _ _ _ (K1.out.b 0 rfl) Try.underlying25 pkinfo ?_) | (go_at_call 24; refine (ipWrite_any _ (⟨src, dst, proto, id, 0, false, whole, ttl, body⟩ : Pk) _ (K1.out.r 1 rfl) Hl1.out hs hd).mono ?_; rintro e w2 ⟨v3, rfl, hown, hb⟩; rw [HW.out] at hown ⊢; simp only at hown ⊢; obtain ⟨A3, cap3, rfl⟩ := slice_len hown.bs HBl.out; have K2 := hid ((K1.out.step hb).add hown.bs); clear hown hb) | ((with_reducible show wpList _ _ _ (Oper.mk (some 43) _ _ _ _ _ :: _) _ _); refine wpList_app8 _ rfl _ _ 23 rfl w2.heap.size 5 u8ok (.slice (some ⟨w2.heap.size, 0, none⟩) 0 0) [] rfl (ownBs_litNil rfl (Nat.le_refl _)) _ B rfl ((K2.out.r 0 rfl).alloc _) (by have := HBl.out; simp; omega) (by simp) ?_; intro v3 w3 hown3 hb3 hg3 hat3; clear hg3 hat3; rw [List.nil_append] at hown3; have H3 := hid hown3; have Hb3 := hid ((below_alloc w2 _).trans hb3); clear hown3 hb3) | ((with_reducible show wpList _ _ _ (Oper.mk (some 45) _ _ _ _ _ :: _) _ _); refine wpList_app8 _ rfl _ _ 23 rfl w2.heap.size 5 u8ok _ _ rfl H3.out _ mr rfl ((K2.out.r 1 rfl).below Hb3.out) (by have := HBl.out; have := Hn.out; omega) Hb3.out.size ?_; intro v4 w4 hown4 hb4 hg4 hat4; clear hg4 hat4; have K4 := hid ((K2.out.step (Hb3.out.trans hb4)).add hown4.bs); clear hown4 hb4) | (go_at_call 22; refine (ipParse_any _ (B ++ mr) _ (K4.out.r 0 rfl) (by have := HBl.out; have := Hn.out; simp; omega)).mono ?_; rintro e w5 ⟨v5, rfl, hown, hb⟩; rw [HP1.out] at hown ⊢; simp only at hown ⊢; obtain ⟨A5, cap5, rfl⟩ := slice_len hown.bs Hm.out; have K5 := hid ((((K4.out.step hb).add hown.bs).step (below_alloc _ (.cells #[.int .u32 (src : Int), .int .u32 (dst : Int), .int .i64 proto, .int .i64 id, .int .i64 0, .bool false, .bool true, .int .i64 ttl, .slice A5 m cap5] 25))).addB (Blk.new _ 25 #[.int .u32 (src : Int), .int .u32 (dst : Int), .int .i64 proto, .int .i64 id, .int .i64 0, .bool false, .bool true, .int .i64 ttl, .slice A5 m cap5])); clear hown hb hc8; have ka0 := (K5.out.b 0 rfl).cell 0; have ka1 := (K5.out.b 0 rfl).cell 1; have ka2 := (K5.out.b 0 rfl).cell 2; have ka3 := (K5.out.b 0 rfl).cell 3; have ka4 := (K5.out.b 0 rfl).cell 4; have ka5 := (K5.out.b 0 rfl).cell 5; have ka6 := (K5.out.b 0 rfl).cell 6; have ka7 := (K5.out.b 0 rfl).cell 7; have ka8 := (K5.out.b 0 rfl).cell 8; have kb0 := (K5.out.b 1 rfl).cell 0; have kb1 := (K5.out.b 1 rfl).cell 1; have kb2 := (K5.out.b 1 rfl).cell 2; have kb3 := (K5.out.b 1 rfl).cell 3; have kb4 := (K5.out.b 1 rfl).cell 4; have kb5 := (K5.out.b 1 rfl).cell 5; have kb6 := (K5.out.b 1 rfl).cell 6; have kb7 := (K5.out.b 1 rfl).cell 7; have kb8 := (K5.out.b 1 rfl).cell 8; have s61 := run_str Try.underlying23 Try.underlying5 Try.underlying9 (K5.out.r 0 rfl); have s62 := run_str Try.underlying23 Try.underlying5 Try.underlying9 (K5.out.r 4 rfl); dsimp only [pkCells]) | ((with_reducible show wpList _ _ _ (Oper.mk (some 124) _ _ _ _ _ :: _) _ _); refine wpList_app8 _ rfl _ _ 23 rfl _ 5 u8ok (.slice (some ⟨_, 0, none⟩) 0 0) [] rfl (ownBs_litNil (by simp) (Nat.le_refl _)) _ B rfl ((K5.out.r 2 rfl).alloc _) (by have := HBl.out; simp; omega) (by simp) ?_; intro v9 w9 hown9 hb9 hg9 hat9; clear hg9 hat9; rw [List.nil_append] at hown9; obtain ⟨g, cap9, hv9, q1, q2, q3⟩ := own_open hown9 (by have := HBl.out; omega); rw [HBl.out] at hv9; subst hv9; have H9 := hid hown9; have Hb9 := hid (show Below (w5.heap.size + 1) _ _ from Below.trans (Below.alloc (Below.refl _ _) (by simp) _) hb9); have K9 := hid (K5.out.step (by rw [World.size_alloc]; exact Hb9.out)); have Hq2 := hid q2; clear hown9 hb9 q1 q2 q3 s61 s62 ka0 kb0 ka1 kb1 ka2 kb2 ka3 kb3 ka4 kb4 ka5 kb5 ka6 kb6 ka7 kb7 ka8 kb8) | ((go_at_call 19; (with_reducible refine (within_at at_ 19 19 _ rfl (by decide) (by decide)).mono ?_); rintro e w' ⟨k0, hk0, rfl, rfl⟩); obtain ⟨k, hk1⟩ : ∃ n, n = k0 + 1 := ⟨_, rfl⟩; have wk : IntKind.i64.wrap (1 + (k0 : Int)) = (k : Int) := (by rw [IntWalk.i64_in _ (by omega)]; omega); have hk20 : k < 20 := (by omega); have hk1' : 1 ≤ k := (by omega); clear hk1))
    have hkB : k < B.length := by have := HBl.out; omega
    have hkB2 : (k : Int) < (q : Int) := by omega
    obtain ⟨hcell, hfroz⟩ := own_cell H9.out k hkB
    unfold u8v at hcell
    clear wk
    go_region_law (first
      | (go_simp; (go_at_call 19; (with_reducible refine (within_at bit 8 8 _ rfl (by decide) (by decide)).mono ?_); rintro e w' ⟨kb, hkb, rfl, rfl⟩))
      | fail)
    all_goals
      obtain ⟨hown10, hg10⟩ := own_set H9.out k (UInt8.ofNat (B[k].toNat ^^^ 2 ^ kb)) (.int .u8 (bits .xor .u8 (B[k].toNat : Int) (IntKind.u8.wrap (2 ^ kb)))) (flip_u8 B[k] kb hkb)
      obtain ⟨c1, hc1, HP5⟩ := HP3.out k (UInt8.ofNat (B[k].toNat ^^^ 2 ^ kb)) (by omega) (by omega) hkB (byte_flip B[k] kb hkb)
      have K10 := hid ((K5.out.step (by rw [World.size_alloc]; exact (below_own Hb9.out hg10 Hq2.out (by have := Hb9.out.size; simp at this; omega)).drew)).add hown10.drew.bs)
      clear hown10 hg10
      have HCl := hid (show (B.set k (UInt8.ofNat (B[k].toNat ^^^ 2 ^ kb))).length = q by rw [List.length_set]; exact HBl.out)
      generalize (w9.setCell ⟨g, k, none⟩ (.int .u8 (bits .xor .u8 (B[k].toNat : Int) (IntKind.u8.wrap (2 ^ kb))))).drew = w10 at *
      generalize B.set k (UInt8.ofNat (B[k].toNat ^^^ 2 ^ kb)) = C at *
      rcases hPC : ipParse C with ⟨⟨s1, d1, pr1, id1, of1, mo1, wh1, tt1, bd1⟩, c2⟩
      have HPC := hid hPC
      have Hc2 := hid (show c2 = c1 by rw [← HP5.out, hPC])
      clear hPC
      have hc2 : (c2 != 0) = true := by rw [Hc2.out]; exact hc1
      go_wp2_with (first | (go_at_call 22; refine (ipParse_any (.slice (cutA A3 cap3 0 1) k2 cap3) (B.take k2) _ (Hcut.out _ (K11.out.r 3 rfl)) (by have := HBl.out; simp; omega)).mono ?_; rintro e w13 ⟨v13, rfl, hown, hb⟩; rw [HP6.out] at hown ⊢; simp only [pk0] at hown ⊢; obtain ⟨A13, cap13, rfl⟩ := slice_len (n := 0) hown.bs rfl; have K12 := hid ((K11.out.step hb).step (below_alloc _ (.cells #[.int .u32 0, .int .u32 0, .int .i64 0, .int .i64 0, .int .i64 0, .bool false, .bool false, .int .i64 0, .slice A13 0 cap13] 25))); clear hown hb; dsimp only [pkCells]) | (go_at_call 22; refine (ipParse_any (.slice (some ⟨g, 0, none⟩) q cap9) C _ (K10.out.r 0 rfl) (by have := HCl.out; omega)).mono ?_; rintro e w11 ⟨v11, rfl, hown, hb⟩; rw [HPC.out] at hown ⊢; simp only at hown ⊢; obtain ⟨_, A11, cap11, rfl, _⟩ := hown.bs; have K11 := hid ((K10.out.step hb).step (below_alloc _ (.cells #[.int .u32 (s1 : Int), .int .u32 (d1 : Int), .int .i64 pr1, .int .i64 id1, .int .i64 of1, .bool mo1, .bool wh1, .int .i64 tt1, .slice A11 bd1.length cap11] 25))); clear hown hb; dsimp only [pkCells]) | ((go_at_call 19; (with_reducible refine (within_at at_ (q : Int) q _ rfl (by omega) (by omega)).mono ?_); rintro e w' ⟨k2, hk2, rfl, rfl⟩); have ck := run_cut_to (P := Try.prog) (T := 23) Try.underlying23 hii A3 q cap3 .i64 k2 k2 rfl (by have := bs_cap (K11.out.r 3 rfl); omega); rw [hss] at ck; have HP6 := hid (HP2.out k2 (by rw [HBl.out]; omega)); have Hcut := hid (show ∀ wx, Bs wx (.slice A3 q cap3) B → Bs wx (.slice (cutA A3 cap3 0 1) k2 cap3) (B.take k2) from fun wx hx => by have := Bs.cut (l := 0) (k := k2) (bs_len hx HBl.out) (by have := HBl.out; omega); simpa using this)))
      go_ret
      exact ⟨rfl, K12.out.bel⟩
  · have HP1 := hid (show ipParse (B ++ mr) = (⟨src, dst, proto, id, 0, true, false, ttl, body⟩, 0) by rw [HP1.out]; rfl)
    go_enter Try.func7, Try.ntmps7
    go_upto_region 13 with (first | ((go_at_call 10; refine (known_any _).mono ?_; rintro e w' ⟨rfl, hb1⟩); have K1 := hid (((K0.out.step (below_alloc w _)).addB (Blk.new w 25 #[.int .u32 (src : Int), .int .u32 (dst : Int), .int .i64 proto, .int .i64 id, .int .i64 0, .bool true, .bool whole, .int .i64 ttl, .slice A m cap])).step hb1); have hc8 := (K1.out.b 0 rfl).cell 8; clear hb1) | ((with_reducible show wpList _ _ _ (Oper.mk (some 31) _ _ _ _ _ :: _) _ _); refine wpList_loadBlk rfl _ _ rfl _ rfl _ _ _ (K1.out.b 0 rfl) Try.underlying25 pkinfo ?_) | (go_at_call 24; refine (ipWrite_any _ (⟨src, dst, proto, id, 0, true, whole, ttl, body⟩ : Pk) _ (K1.out.r 1 rfl) Hl1.out hs hd).mono ?_; rintro e w2 ⟨v3, rfl, hown, hb⟩; rw [HW.out] at hown ⊢; simp only at hown ⊢; obtain ⟨A3, cap3, rfl⟩ := slice_len hown.bs HBl.out; have K2 := hid ((K1.out.step hb).add hown.bs); clear hown hb) | ((with_reducible show wpList _ _ _ (Oper.mk (some 43) _ _ _ _ _ :: _) _ _); refine wpList_app8 _ rfl _ _ 23 rfl w2.heap.size 5 u8ok (.slice (some ⟨w2.heap.size, 0, none⟩) 0 0) [] rfl (ownBs_litNil rfl (Nat.le_refl _)) _ B rfl ((K2.out.r 0 rfl).alloc _) (by have := HBl.out; simp; omega) (by simp) ?_; intro v3 w3 hown3 hb3 hg3 hat3; clear hg3 hat3; rw [List.nil_append] at hown3; have H3 := hid hown3; have Hb3 := hid ((below_alloc w2 _).trans hb3); clear hown3 hb3) | ((with_reducible show wpList _ _ _ (Oper.mk (some 45) _ _ _ _ _ :: _) _ _); refine wpList_app8 _ rfl _ _ 23 rfl w2.heap.size 5 u8ok _ _ rfl H3.out _ mr rfl ((K2.out.r 1 rfl).below Hb3.out) (by have := HBl.out; have := Hn.out; omega) Hb3.out.size ?_; intro v4 w4 hown4 hb4 hg4 hat4; clear hg4 hat4; have K4 := hid ((K2.out.step (Hb3.out.trans hb4)).add hown4.bs); clear hown4 hb4) | (go_at_call 22; refine (ipParse_any _ (B ++ mr) _ (K4.out.r 0 rfl) (by have := HBl.out; have := Hn.out; simp; omega)).mono ?_; rintro e w5 ⟨v5, rfl, hown, hb⟩; rw [HP1.out] at hown ⊢; simp only at hown ⊢; obtain ⟨A5, cap5, rfl⟩ := slice_len hown.bs Hm.out; have K5 := hid ((((K4.out.step hb).add hown.bs).step (below_alloc _ (.cells #[.int .u32 (src : Int), .int .u32 (dst : Int), .int .i64 proto, .int .i64 id, .int .i64 0, .bool true, .bool false, .int .i64 ttl, .slice A5 m cap5] 25))).addB (Blk.new _ 25 #[.int .u32 (src : Int), .int .u32 (dst : Int), .int .i64 proto, .int .i64 id, .int .i64 0, .bool true, .bool false, .int .i64 ttl, .slice A5 m cap5])); clear hown hb hc8; have ka0 := (K5.out.b 0 rfl).cell 0; have ka1 := (K5.out.b 0 rfl).cell 1; have ka2 := (K5.out.b 0 rfl).cell 2; have ka3 := (K5.out.b 0 rfl).cell 3; have ka4 := (K5.out.b 0 rfl).cell 4; have ka5 := (K5.out.b 0 rfl).cell 5; have ka6 := (K5.out.b 0 rfl).cell 6; have ka7 := (K5.out.b 0 rfl).cell 7; have ka8 := (K5.out.b 0 rfl).cell 8; have kb0 := (K5.out.b 1 rfl).cell 0; have kb1 := (K5.out.b 1 rfl).cell 1; have kb2 := (K5.out.b 1 rfl).cell 2; have kb3 := (K5.out.b 1 rfl).cell 3; have kb4 := (K5.out.b 1 rfl).cell 4; have kb5 := (K5.out.b 1 rfl).cell 5; have kb6 := (K5.out.b 1 rfl).cell 6; have kb7 := (K5.out.b 1 rfl).cell 7; have kb8 := (K5.out.b 1 rfl).cell 8; have s61 := run_str Try.underlying23 Try.underlying5 Try.underlying9 (K5.out.r 0 rfl); have s62 := run_str Try.underlying23 Try.underlying5 Try.underlying9 (K5.out.r 4 rfl); dsimp only [pkCells]) | ((with_reducible show wpList _ _ _ (Oper.mk (some 124) _ _ _ _ _ :: _) _ _); refine wpList_app8 _ rfl _ _ 23 rfl _ 5 u8ok (.slice (some ⟨_, 0, none⟩) 0 0) [] rfl (ownBs_litNil (by simp) (Nat.le_refl _)) _ B rfl ((K5.out.r 2 rfl).alloc _) (by have := HBl.out; simp; omega) (by simp) ?_; intro v9 w9 hown9 hb9 hg9 hat9; clear hg9 hat9; rw [List.nil_append] at hown9; obtain ⟨g, cap9, hv9, q1, q2, q3⟩ := own_open hown9 (by have := HBl.out; omega); rw [HBl.out] at hv9; subst hv9; have H9 := hid hown9; have Hb9 := hid (show Below (w5.heap.size + 1) _ _ from Below.trans (Below.alloc (Below.refl _ _) (by simp) _) hb9); have K9 := hid (K5.out.step (by rw [World.size_alloc]; exact Hb9.out)); have Hq2 := hid q2; clear hown9 hb9 q1 q2 q3 s61 s62 ka0 kb0 ka1 kb1 ka2 kb2 ka3 kb3 ka4 kb4 ka5 kb5 ka6 kb6 ka7 kb7 ka8 kb8) | ((go_at_call 19; (with_reducible refine (within_at at_ 19 19 _ rfl (by decide) (by decide)).mono ?_); rintro e w' ⟨k0, hk0, rfl, rfl⟩); obtain ⟨k, hk1⟩ : ∃ n, n = k0 + 1 := ⟨_, rfl⟩; have wk : IntKind.i64.wrap (1 + (k0 : Int)) = (k : Int) := (by rw [IntWalk.i64_in _ (by omega)]; omega); have hk20 : k < 20 := (by omega); have hk1' : 1 ≤ k := (by omega); clear hk1))
    have hkB : k < B.length := by have := HBl.out; omega
    have hkB2 : (k : Int) < (q : Int) := by omega
    obtain ⟨hcell, hfroz⟩ := own_cell H9.out k hkB
    unfold u8v at hcell
    clear wk
    go_region_law (first
      | (go_simp; (go_at_call 19; (with_reducible refine (within_at bit 8 8 _ rfl (by decide) (by decide)).mono ?_); rintro e w' ⟨kb, hkb, rfl, rfl⟩))
      | fail)
    all_goals
      obtain ⟨hown10, hg10⟩ := own_set H9.out k (UInt8.ofNat (B[k].toNat ^^^ 2 ^ kb)) (.int .u8 (bits .xor .u8 (B[k].toNat : Int) (IntKind.u8.wrap (2 ^ kb)))) (flip_u8 B[k] kb hkb)
      obtain ⟨c1, hc1, HP5⟩ := HP3.out k (UInt8.ofNat (B[k].toNat ^^^ 2 ^ kb)) (by omega) (by omega) hkB (byte_flip B[k] kb hkb)
      have K10 := hid ((K5.out.step (by rw [World.size_alloc]; exact (below_own Hb9.out hg10 Hq2.out (by have := Hb9.out.size; simp at this; omega)).drew)).add hown10.drew.bs)
      clear hown10 hg10
      have HCl := hid (show (B.set k (UInt8.ofNat (B[k].toNat ^^^ 2 ^ kb))).length = q by rw [List.length_set]; exact HBl.out)
      generalize (w9.setCell ⟨g, k, none⟩ (.int .u8 (bits .xor .u8 (B[k].toNat : Int) (IntKind.u8.wrap (2 ^ kb))))).drew = w10 at *
      generalize B.set k (UInt8.ofNat (B[k].toNat ^^^ 2 ^ kb)) = C at *
      rcases hPC : ipParse C with ⟨⟨s1, d1, pr1, id1, of1, mo1, wh1, tt1, bd1⟩, c2⟩
      have HPC := hid hPC
      have Hc2 := hid (show c2 = c1 by rw [← HP5.out, hPC])
      clear hPC
      have hc2 : (c2 != 0) = true := by rw [Hc2.out]; exact hc1
      go_wp2_with (first | (go_at_call 22; refine (ipParse_any (.slice (cutA A3 cap3 0 1) k2 cap3) (B.take k2) _ (Hcut.out _ (K11.out.r 3 rfl)) (by have := HBl.out; simp; omega)).mono ?_; rintro e w13 ⟨v13, rfl, hown, hb⟩; rw [HP6.out] at hown ⊢; simp only [pk0] at hown ⊢; obtain ⟨A13, cap13, rfl⟩ := slice_len (n := 0) hown.bs rfl; have K12 := hid ((K11.out.step hb).step (below_alloc _ (.cells #[.int .u32 0, .int .u32 0, .int .i64 0, .int .i64 0, .int .i64 0, .bool false, .bool false, .int .i64 0, .slice A13 0 cap13] 25))); clear hown hb; dsimp only [pkCells]) | (go_at_call 22; refine (ipParse_any (.slice (some ⟨g, 0, none⟩) q cap9) C _ (K10.out.r 0 rfl) (by have := HCl.out; omega)).mono ?_; rintro e w11 ⟨v11, rfl, hown, hb⟩; rw [HPC.out] at hown ⊢; simp only at hown ⊢; obtain ⟨_, A11, cap11, rfl, _⟩ := hown.bs; have K11 := hid ((K10.out.step hb).step (below_alloc _ (.cells #[.int .u32 (s1 : Int), .int .u32 (d1 : Int), .int .i64 pr1, .int .i64 id1, .int .i64 of1, .bool mo1, .bool wh1, .int .i64 tt1, .slice A11 bd1.length cap11] 25))); clear hown hb; dsimp only [pkCells]) | ((go_at_call 19; (with_reducible refine (within_at at_ (q : Int) q _ rfl (by omega) (by omega)).mono ?_); rintro e w' ⟨k2, hk2, rfl, rfl⟩); have ck := run_cut_to (P := Try.prog) (T := 23) Try.underlying23 hii A3 q cap3 .i64 k2 k2 rfl (by have := bs_cap (K11.out.r 3 rfl); omega); rw [hss] at ck; have HP6 := hid (HP2.out k2 (by rw [HBl.out]; omega)); have Hcut := hid (show ∀ wx, Bs wx (.slice A3 q cap3) B → Bs wx (.slice (cutA A3 cap3 0 1) k2 cap3) (B.take k2) from fun wx hx => by have := Bs.cut (l := 0) (k := k2) (bs_len hx HBl.out) (by have := HBl.out; omega); simpa using this)))
      go_ret
      exact ⟨rfl, K12.out.bel⟩
  · have d1 : decide (off = 0) = false := decide_eq_false y8
    have HP1 := hid (show ipParse (B ++ mr) = (⟨src, dst, proto, id, off, more, false, ttl, body⟩, 0) by rw [HP1.out, d1]; rfl)
    go_enter Try.func7, Try.ntmps7
    go_upto_region 13 with (first | ((go_at_call 10; refine (known_any _).mono ?_; rintro e w' ⟨rfl, hb1⟩); have K1 := hid (((K0.out.step (below_alloc w _)).addB (Blk.new w 25 #[.int .u32 (src : Int), .int .u32 (dst : Int), .int .i64 proto, .int .i64 id, .int .i64 off, .bool more, .bool whole, .int .i64 ttl, .slice A m cap])).step hb1); have hc8 := (K1.out.b 0 rfl).cell 8; clear hb1) | ((with_reducible show wpList _ _ _ (Oper.mk (some 31) _ _ _ _ _ :: _) _ _); refine wpList_loadBlk rfl _ _ rfl _ rfl _ _ _ (K1.out.b 0 rfl) Try.underlying25 pkinfo ?_) | (go_at_call 24; refine (ipWrite_any _ (⟨src, dst, proto, id, off, more, whole, ttl, body⟩ : Pk) _ (K1.out.r 1 rfl) Hl1.out hs hd).mono ?_; rintro e w2 ⟨v3, rfl, hown, hb⟩; rw [HW.out] at hown ⊢; simp only at hown ⊢; obtain ⟨A3, cap3, rfl⟩ := slice_len hown.bs HBl.out; have K2 := hid ((K1.out.step hb).add hown.bs); clear hown hb) | ((with_reducible show wpList _ _ _ (Oper.mk (some 43) _ _ _ _ _ :: _) _ _); refine wpList_app8 _ rfl _ _ 23 rfl w2.heap.size 5 u8ok (.slice (some ⟨w2.heap.size, 0, none⟩) 0 0) [] rfl (ownBs_litNil rfl (Nat.le_refl _)) _ B rfl ((K2.out.r 0 rfl).alloc _) (by have := HBl.out; simp; omega) (by simp) ?_; intro v3 w3 hown3 hb3 hg3 hat3; clear hg3 hat3; rw [List.nil_append] at hown3; have H3 := hid hown3; have Hb3 := hid ((below_alloc w2 _).trans hb3); clear hown3 hb3) | ((with_reducible show wpList _ _ _ (Oper.mk (some 45) _ _ _ _ _ :: _) _ _); refine wpList_app8 _ rfl _ _ 23 rfl w2.heap.size 5 u8ok _ _ rfl H3.out _ mr rfl ((K2.out.r 1 rfl).below Hb3.out) (by have := HBl.out; have := Hn.out; omega) Hb3.out.size ?_; intro v4 w4 hown4 hb4 hg4 hat4; clear hg4 hat4; have K4 := hid ((K2.out.step (Hb3.out.trans hb4)).add hown4.bs); clear hown4 hb4) | (go_at_call 22; refine (ipParse_any _ (B ++ mr) _ (K4.out.r 0 rfl) (by have := HBl.out; have := Hn.out; simp; omega)).mono ?_; rintro e w5 ⟨v5, rfl, hown, hb⟩; rw [HP1.out] at hown ⊢; simp only at hown ⊢; obtain ⟨A5, cap5, rfl⟩ := slice_len hown.bs Hm.out; have K5 := hid ((((K4.out.step hb).add hown.bs).step (below_alloc _ (.cells #[.int .u32 (src : Int), .int .u32 (dst : Int), .int .i64 proto, .int .i64 id, .int .i64 off, .bool more, .bool false, .int .i64 ttl, .slice A5 m cap5] 25))).addB (Blk.new _ 25 #[.int .u32 (src : Int), .int .u32 (dst : Int), .int .i64 proto, .int .i64 id, .int .i64 off, .bool more, .bool false, .int .i64 ttl, .slice A5 m cap5])); clear hown hb hc8; have ka0 := (K5.out.b 0 rfl).cell 0; have ka1 := (K5.out.b 0 rfl).cell 1; have ka2 := (K5.out.b 0 rfl).cell 2; have ka3 := (K5.out.b 0 rfl).cell 3; have ka4 := (K5.out.b 0 rfl).cell 4; have ka5 := (K5.out.b 0 rfl).cell 5; have ka6 := (K5.out.b 0 rfl).cell 6; have ka7 := (K5.out.b 0 rfl).cell 7; have ka8 := (K5.out.b 0 rfl).cell 8; have kb0 := (K5.out.b 1 rfl).cell 0; have kb1 := (K5.out.b 1 rfl).cell 1; have kb2 := (K5.out.b 1 rfl).cell 2; have kb3 := (K5.out.b 1 rfl).cell 3; have kb4 := (K5.out.b 1 rfl).cell 4; have kb5 := (K5.out.b 1 rfl).cell 5; have kb6 := (K5.out.b 1 rfl).cell 6; have kb7 := (K5.out.b 1 rfl).cell 7; have kb8 := (K5.out.b 1 rfl).cell 8; have s61 := run_str Try.underlying23 Try.underlying5 Try.underlying9 (K5.out.r 0 rfl); have s62 := run_str Try.underlying23 Try.underlying5 Try.underlying9 (K5.out.r 4 rfl); dsimp only [pkCells]) | ((with_reducible show wpList _ _ _ (Oper.mk (some 124) _ _ _ _ _ :: _) _ _); refine wpList_app8 _ rfl _ _ 23 rfl _ 5 u8ok (.slice (some ⟨_, 0, none⟩) 0 0) [] rfl (ownBs_litNil (by simp) (Nat.le_refl _)) _ B rfl ((K5.out.r 2 rfl).alloc _) (by have := HBl.out; simp; omega) (by simp) ?_; intro v9 w9 hown9 hb9 hg9 hat9; clear hg9 hat9; rw [List.nil_append] at hown9; obtain ⟨g, cap9, hv9, q1, q2, q3⟩ := own_open hown9 (by have := HBl.out; omega); rw [HBl.out] at hv9; subst hv9; have H9 := hid hown9; have Hb9 := hid (show Below (w5.heap.size + 1) _ _ from Below.trans (Below.alloc (Below.refl _ _) (by simp) _) hb9); have K9 := hid (K5.out.step (by rw [World.size_alloc]; exact Hb9.out)); have Hq2 := hid q2; clear hown9 hb9 q1 q2 q3 s61 s62 ka0 kb0 ka1 kb1 ka2 kb2 ka3 kb3 ka4 kb4 ka5 kb5 ka6 kb6 ka7 kb7 ka8 kb8) | ((go_at_call 19; (with_reducible refine (within_at at_ 19 19 _ rfl (by decide) (by decide)).mono ?_); rintro e w' ⟨k0, hk0, rfl, rfl⟩); obtain ⟨k, hk1⟩ : ∃ n, n = k0 + 1 := ⟨_, rfl⟩; have wk : IntKind.i64.wrap (1 + (k0 : Int)) = (k : Int) := (by rw [IntWalk.i64_in _ (by omega)]; omega); have hk20 : k < 20 := (by omega); have hk1' : 1 ≤ k := (by omega); clear hk1))
    have hkB : k < B.length := by have := HBl.out; omega
    have hkB2 : (k : Int) < (q : Int) := by omega
    obtain ⟨hcell, hfroz⟩ := own_cell H9.out k hkB
    unfold u8v at hcell
    clear wk
    go_region_law (first
      | (go_simp; (go_at_call 19; (with_reducible refine (within_at bit 8 8 _ rfl (by decide) (by decide)).mono ?_); rintro e w' ⟨kb, hkb, rfl, rfl⟩))
      | fail)
    all_goals
      obtain ⟨hown10, hg10⟩ := own_set H9.out k (UInt8.ofNat (B[k].toNat ^^^ 2 ^ kb)) (.int .u8 (bits .xor .u8 (B[k].toNat : Int) (IntKind.u8.wrap (2 ^ kb)))) (flip_u8 B[k] kb hkb)
      obtain ⟨c1, hc1, HP5⟩ := HP3.out k (UInt8.ofNat (B[k].toNat ^^^ 2 ^ kb)) (by omega) (by omega) hkB (byte_flip B[k] kb hkb)
      have K10 := hid ((K5.out.step (by rw [World.size_alloc]; exact (below_own Hb9.out hg10 Hq2.out (by have := Hb9.out.size; simp at this; omega)).drew)).add hown10.drew.bs)
      clear hown10 hg10
      have HCl := hid (show (B.set k (UInt8.ofNat (B[k].toNat ^^^ 2 ^ kb))).length = q by rw [List.length_set]; exact HBl.out)
      generalize (w9.setCell ⟨g, k, none⟩ (.int .u8 (bits .xor .u8 (B[k].toNat : Int) (IntKind.u8.wrap (2 ^ kb))))).drew = w10 at *
      generalize B.set k (UInt8.ofNat (B[k].toNat ^^^ 2 ^ kb)) = C at *
      rcases hPC : ipParse C with ⟨⟨s1, d1, pr1, id1, of1, mo1, wh1, tt1, bd1⟩, c2⟩
      have HPC := hid hPC
      have Hc2 := hid (show c2 = c1 by rw [← HP5.out, hPC])
      clear hPC
      have hc2 : (c2 != 0) = true := by rw [Hc2.out]; exact hc1
      go_wp2_with (first | (go_at_call 22; refine (ipParse_any (.slice (cutA A3 cap3 0 1) k2 cap3) (B.take k2) _ (Hcut.out _ (K11.out.r 3 rfl)) (by have := HBl.out; simp; omega)).mono ?_; rintro e w13 ⟨v13, rfl, hown, hb⟩; rw [HP6.out] at hown ⊢; simp only [pk0] at hown ⊢; obtain ⟨A13, cap13, rfl⟩ := slice_len (n := 0) hown.bs rfl; have K12 := hid ((K11.out.step hb).step (below_alloc _ (.cells #[.int .u32 0, .int .u32 0, .int .i64 0, .int .i64 0, .int .i64 0, .bool false, .bool false, .int .i64 0, .slice A13 0 cap13] 25))); clear hown hb; dsimp only [pkCells]) | (go_at_call 22; refine (ipParse_any (.slice (some ⟨g, 0, none⟩) q cap9) C _ (K10.out.r 0 rfl) (by have := HCl.out; omega)).mono ?_; rintro e w11 ⟨v11, rfl, hown, hb⟩; rw [HPC.out] at hown ⊢; simp only at hown ⊢; obtain ⟨_, A11, cap11, rfl, _⟩ := hown.bs; have K11 := hid ((K10.out.step hb).step (below_alloc _ (.cells #[.int .u32 (s1 : Int), .int .u32 (d1 : Int), .int .i64 pr1, .int .i64 id1, .int .i64 of1, .bool mo1, .bool wh1, .int .i64 tt1, .slice A11 bd1.length cap11] 25))); clear hown hb; dsimp only [pkCells]) | ((go_at_call 19; (with_reducible refine (within_at at_ (q : Int) q _ rfl (by omega) (by omega)).mono ?_); rintro e w' ⟨k2, hk2, rfl, rfl⟩); have ck := run_cut_to (P := Try.prog) (T := 23) Try.underlying23 hii A3 q cap3 .i64 k2 k2 rfl (by have := bs_cap (K11.out.r 3 rfl); omega); rw [hss] at ck; have HP6 := hid (HP2.out k2 (by rw [HBl.out]; omega)); have Hcut := hid (show ∀ wx, Bs wx (.slice A3 q cap3) B → Bs wx (.slice (cutA A3 cap3 0 1) k2 cap3) (B.take k2) from fun wx hx => by have := Bs.cut (l := 0) (k := k2) (bs_len hx HBl.out) (by have := HBl.out; omega); simpa using this)))
      go_ret
      exact ⟨rfl, K12.out.bel⟩
end Go.Proofs.Ytbjiicnagfeciaa
