/- Contract of ip.Write. -/
import Derived.Test.YtbjiicnagfeciaaIpPA
import Derived.Test.YtbjiicnagfeciaaIpEr
import Derived.Test.YtbjiicnagfeciaaOwn
namespace Go.Proofs.Ytbjiicnagfeciaa
open Go Go.RowKit
set_option maxRecDepth 100000

def ipFrag (off : Int) (more : Bool) : Nat := off.toNat / 8 + if more then 8192 else 0
def ipHead (p : Pk) : List UInt8 :=
  [69, 0] ++ (beBytes 2 (20 + p.body.length) ++ beBytes 2 p.id.toNat ++ beBytes 2 (ipFrag p.off p.more)) ++ [UInt8.ofNat p.ttl.toNat, UInt8.ofNat p.proto.toNat, 0, 0] ++ (beBytes 4 p.src ++ beBytes 4 p.dst)
theorem ipHead_len (p : Pk) : (ipHead p).length = 20 := by simp [ipHead, beBytes_len]
def ipBadArg (p : Pk) : Prop := p.proto < 0 ∨ p.proto > 255 ∨ p.ttl < 0 ∨ p.ttl > 255 ∨ p.id < 0 ∨ p.id > 65535 ∨ p.off < 0 ∨ p.off > 65528 ∨ p.off % 8 ≠ 0
instance (p : Pk) : Decidable (ipBadArg p) := by unfold ipBadArg; infer_instance
def ipBadSize (p : Pk) : Prop := p.more = true ∧ (p.body.length = 0 ∨ p.body.length % 8 ≠ 0)
instance (p : Pk) : Decidable (ipBadSize p) := by unfold ipBadSize; infer_instance
def ipFull (p : Pk) : List UInt8 := sumAt (ipHead p) 10 ++ p.body
def ipWrite (p : Pk) : List UInt8 × Int :=
  if ipBadArg p then ([], 1) else if ipBadSize p then ([], 14) else if p.body.length > 65515 then ([], 5) else (ipFull p, 0)

theorem nat_or13 (n : Nat) (h : n < 2 ^ 13) : n ||| 2 ^ 13 = n + 2 ^ 13 := by
  have := Nat.two_pow_add_eq_or_of_lt h 1
  rw [Nat.mul_one] at this
  rw [Nat.or_comm, ← this, Nat.add_comm]
theorem i64_or13 (n : Nat) (h : n < 8192) : bits .or .i64 (n : Int) 8192 = (n : Int) + 8192 := by
  have h13 : (BitVec.ofInt 64 8192).toNat = 2 ^ 13 := by decide
  have key : (BitVec.ofInt 64 (n : Int) ||| BitVec.ofInt 64 8192).toNat = n + 8192 := by
    rw [BitVec.toNat_or, BitVec.toNat_ofInt, h13]
    have e : ((n : Int) % ((2 ^ 64 : Nat) : Int)).toNat = n := by omega
    rw [e, nat_or13 n h]
  show IntKind.i64.wrap ((BitVec.ofInt 64 (n : Int) ||| BitVec.ofInt 64 8192).toNat : Nat) = _
  rw [key, IntKind.wrap_i64]
  omega

/-- the ways by which an argument is refused, each by the first test that it fails -/
theorem ipBad_cases {p : Pk} (h : ipBadArg p) :
    p.proto < 0 ∨ (¬ p.proto < 0 ∧ p.proto > 255) ∨ (¬ p.proto < 0 ∧ ¬ p.proto > 255 ∧ p.ttl < 0) ∨ (¬ p.proto < 0 ∧ ¬ p.proto > 255 ∧ ¬ p.ttl < 0 ∧ p.ttl > 255) ∨
      (¬ p.proto < 0 ∧ ¬ p.proto > 255 ∧ ¬ p.ttl < 0 ∧ ¬ p.ttl > 255 ∧ p.id < 0) ∨ (¬ p.proto < 0 ∧ ¬ p.proto > 255 ∧ ¬ p.ttl < 0 ∧ ¬ p.ttl > 255 ∧ ¬ p.id < 0 ∧ p.id > 65535) ∨
      (¬ p.proto < 0 ∧ ¬ p.proto > 255 ∧ ¬ p.ttl < 0 ∧ ¬ p.ttl > 255 ∧ ¬ p.id < 0 ∧ ¬ p.id > 65535 ∧ p.off < 0) ∨
      (¬ p.proto < 0 ∧ ¬ p.proto > 255 ∧ ¬ p.ttl < 0 ∧ ¬ p.ttl > 255 ∧ ¬ p.id < 0 ∧ ¬ p.id > 65535 ∧ ¬ p.off < 0 ∧ p.off > 65528) ∨
      (¬ p.proto < 0 ∧ ¬ p.proto > 255 ∧ ¬ p.ttl < 0 ∧ ¬ p.ttl > 255 ∧ ¬ p.id < 0 ∧ ¬ p.id > 65535 ∧ ¬ p.off < 0 ∧ ¬ p.off > 65528 ∧ p.off % 8 ≠ 0) := by
  unfold ipBadArg at h
  by_cases a1 : p.proto < 0
  · exact .inl a1
  refine .inr ?_
  by_cases a2 : p.proto > 255
  · exact .inl ⟨a1, a2⟩
  refine .inr ?_
  by_cases a3 : p.ttl < 0
  · exact .inl ⟨a1, a2, a3⟩
  refine .inr ?_
  by_cases a4 : p.ttl > 255
  · exact .inl ⟨a1, a2, a3, a4⟩
  refine .inr ?_
  by_cases a5 : p.id < 0
  · exact .inl ⟨a1, a2, a3, a4, a5⟩
  refine .inr ?_
  by_cases a6 : p.id > 65535
  · exact .inl ⟨a1, a2, a3, a4, a5, a6⟩
  refine .inr ?_
  by_cases a7 : p.off < 0
  · exact .inl ⟨a1, a2, a3, a4, a5, a6, a7⟩
  refine .inr ?_
  by_cases a8 : p.off > 65528
  · exact .inl ⟨a1, a2, a3, a4, a5, a6, a7, a8⟩
  refine .inr ⟨a1, a2, a3, a4, a5, a6, a7, a8, ?_⟩
  rcases h with h | h | h | h | h | h | h | h | h
  · exact absurd h a1
  · exact absurd h a2
  · exact absurd h a3
  · exact absurd h a4
  · exact absurd h a5
  · exact absurd h a6
  · exact absurd h a7
  · exact absurd h a8
  · exact h

theorem bel1 {w wk : World} {o0 : Obj} (h : Below (w.heap.size + 1) (w.alloc o0) wk) (o : Obj) : Below (w.heap.size + 1) (w.alloc o0) (wk.alloc o) :=
  h.alloc (by have := h.size; rwa [World.size_alloc] at this) o
set_option maxHeartbeats 4000000 in
theorem ipWrite_bad (v : Value) (p : Pk) (w : World) (h : Bs w v p.body) (hl : p.body.length ≤ 1099511627776) (hb : ipBadArg p) :
    Calls Try.prog 24 #[.agg (pkCells p v).toArray] w fun e w' => ∃ v', e = .returned (.tuple #[v', .int .i64 1]) ∧ OwnBs w' w.heap.size 5 v' [] ∧ Below w.heap.size w w' := by
  have hc := ipBad_cases hb
  clear hb
  obtain ⟨src, dst, proto, id, off, more, whole, ttl, body⟩ := p
  simp only at hc hl h
  obtain ⟨A, cap, rfl, k1, k2, _⟩ := h.cells
  clear h
  dsimp only [pkCells]
  rcases hc with z | ⟨a1, z⟩ | ⟨a1, a2, z⟩ | ⟨a1, a2, a3, z⟩ | ⟨a1, a2, a3, a4, z⟩ | ⟨a1, a2, a3, a4, a5, z⟩ | ⟨a1, a2, a3, a4, a5, a6, z⟩ | ⟨a1, a2, a3, a4, a5, a6, a7, z⟩ | ⟨a1, a2, a3, a4, a5, a6, a7, a8, z⟩
  · (go_enter Try.func24, Try.ntmps24; go_wp2_with fail; go_ret2; exact ⟨_, rfl, OwnBs.nil _ _ _, below_alloc _ _⟩)
  · (go_enter Try.func24, Try.ntmps24; go_wp2_with fail; go_ret2; exact ⟨_, rfl, OwnBs.nil _ _ _, below_alloc _ _⟩)
  · (go_enter Try.func24, Try.ntmps24; go_wp2_with fail; go_ret2; exact ⟨_, rfl, OwnBs.nil _ _ _, below_alloc _ _⟩)
  · (go_enter Try.func24, Try.ntmps24; go_wp2_with fail; go_ret2; exact ⟨_, rfl, OwnBs.nil _ _ _, below_alloc _ _⟩)
  · (go_enter Try.func24, Try.ntmps24; go_wp2_with fail; go_ret2; exact ⟨_, rfl, OwnBs.nil _ _ _, below_alloc _ _⟩)
  · (go_enter Try.func24, Try.ntmps24; go_wp2_with fail; go_ret2; exact ⟨_, rfl, OwnBs.nil _ _ _, below_alloc _ _⟩)
  · (go_enter Try.func24, Try.ntmps24; go_wp2_with fail; go_ret2; exact ⟨_, rfl, OwnBs.nil _ _ _, below_alloc _ _⟩)
  · (go_enter Try.func24, Try.ntmps24; go_wp2_with fail; go_ret2; exact ⟨_, rfl, OwnBs.nil _ _ _, below_alloc _ _⟩)
  · have z1 : off.tmod 8 = off % 8 := by rw [Int.tmod_eq_emod_of_nonneg (by omega)]
    have z2 : (off % 8 != 0) = true := by simpa using z
    (go_enter Try.func24, Try.ntmps24; go_wp2_with fail; go_ret2; exact ⟨_, rfl, OwnBs.nil _ _ _, below_alloc _ _⟩)

set_option maxHeartbeats 4000000 in
theorem ipWrite_ok (v : Value) (src dst proto id o8 ttl : Nat) (more whole : Bool) (body : List UInt8) (m : Nat) (hm : body.length = m) (w : World) (h : Bs w v body) (hs : src < 4294967296) (hd : dst < 4294967296) (h1 : proto ≤ 255) (h2 : ttl ≤ 255) (h3 : id ≤ 65535) (h4 : o8 ≤ 8191)
    (h5 : more = true → 0 < m ∧ m % 8 = 0) (h6 : m ≤ 65515) :
    Calls Try.prog 24 #[.agg #[.int .u32 (src : Int), .int .u32 (dst : Int), .int .i64 (proto : Int), .int .i64 (id : Int), .int .i64 ((o8 * 8 : Nat) : Int), .bool more, .bool whole, .int .i64 (ttl : Int), v]] w fun e w' => ∃ v', e = .returned (.tuple #[v', .int .i64 0]) ∧
      OwnBs w' w.heap.size 5 v' (ipFull ⟨src, dst, proto, id, (o8 * 8 : Nat), more, whole, ttl, body⟩) ∧ Below w.heap.size w w' := by
  obtain ⟨off, hoff⟩ : ∃ x : Int, ((o8 * 8 : Nat) : Int) = x := ⟨_, rfl⟩
  rw [hoff]
  have hoff2 : off = o8 * 8 := by omega
  have Hb := hid h
  obtain ⟨A, cap, rfl⟩ := slice_len h hm
  have Hm := hid hm
  clear h
  have a1 : ¬ (proto : Int) < 0 := by omega
  have a2 : ¬ (proto : Int) > 255 := by omega
  have a3 : ¬ (ttl : Int) < 0 := by omega
  have a4 : ¬ (ttl : Int) > 255 := by omega
  have a5 : ¬ (id : Int) < 0 := by omega
  have a6 : ¬ (id : Int) > 65535 := by omega
  have a7 : ¬ off < 0 := by omega
  have a8 : ¬ off > 65528 := by omega
  have z1 : off.tmod 8 = off % 8 := by rw [Int.tmod_eq_emod_of_nonneg (by omega)]
  have z2 : (off % 8 != 0) = false := by simp; omega
  have z3 : off.tdiv 8 = (o8 : Int) := by rw [Int.tdiv_eq_ediv_of_nonneg (by omega)]; omega
  have z4 : (m : Int).tmod 8 = (m : Int) % 8 := by rw [Int.tmod_eq_emod_of_nonneg (by omega)]
  have a9 : ¬ (m : Int) > 65515 := by omega
  have w1 : IntKind.u8.wrap (ttl : Int) = (ttl : Int) := IntWalk.u8_in _ (by omega)
  have w2 : IntKind.u8.wrap (proto : Int) = (proto : Int) := IntWalk.u8_in _ (by omega)
  have w3 : IntKind.u64.wrap (id : Int) = (id : Int) := IntWalk.u64_in _ (by omega)
  have w4 : IntKind.i64.wrap (20 + (m : Int)) = 20 + (m : Int) := IntWalk.i64_in _ (by omega)
  have w5 : IntKind.u64.wrap (20 + (m : Int)) = 20 + (m : Int) := IntWalk.u64_in _ (by omega)
  have w6 : IntKind.u64.wrap (src : Int) = (src : Int) := IntWalk.u64_in _ (by omega)
  have w7 : IntKind.u64.wrap (dst : Int) = (dst : Int) := IntWalk.u64_in _ (by omega)
  obtain ⟨fr, hfr⟩ : ∃ n : Nat, ipFrag off more = n := ⟨_, rfl⟩
  have hfl : fr < 65536 := by rw [← hfr]; unfold ipFrag; split <;> omega
  have w8 : IntKind.u64.wrap (fr : Int) = (fr : Int) := IntWalk.u64_in _ (by omega)
  have Hp1 := hid (put_fits beBytes [69, 0] 2 2 [20 + m, id, fr] rfl (by decide) (by simp; omega))
  have He1 := hid (show [69, 0] ++ [20 + m, id, fr].flatMap (beBytes 2) = [69, 0] ++ (beBytes 2 (20 + m) ++ beBytes 2 id ++ beBytes 2 fr) by simp)
  rw [He1.out] at Hp1
  have Hl1 := hid (show ([69, 0] ++ (beBytes 2 (20 + m) ++ beBytes 2 id ++ beBytes 2 fr)).length = 8 by simp [beBytes_len])
  have He3 := hid (show ipHead ⟨src, dst, proto, id, off, more, whole, ttl, body⟩ = [69, 0] ++ (beBytes 2 (20 + m) ++ beBytes 2 id ++ beBytes 2 fr) ++ [UInt8.ofNat ttl, UInt8.ofNat proto, 0, 0] ++ (beBytes 4 src ++ beBytes 4 dst) by unfold ipHead; rw [hm, hfr]; rfl)
  generalize [69, 0] ++ (beBytes 2 (20 + m) ++ beBytes 2 id ++ beBytes 2 fr) = h8 at *
  have Hl2 := hid (show (h8 ++ [UInt8.ofNat ttl, UInt8.ofNat proto, 0, 0]).length = 12 by simp [Hl1.out])
  have Hp2 := hid (put_fits beBytes (h8 ++ [UInt8.ofNat ttl, UInt8.ofNat proto, 0, 0]) 4 4 [src, dst] rfl (by decide) (by simp; omega))
  have He2 := hid (show h8 ++ [UInt8.ofNat ttl, UInt8.ofNat proto, 0, 0] ++ [src, dst].flatMap (beBytes 4) = ipHead ⟨src, dst, proto, id, off, more, whole, ttl, body⟩ by rw [He3.out]; simp)
  rw [He2.out] at Hp2
  have HF := hid (show ipFull ⟨src, dst, proto, id, off, more, whole, ttl, body⟩ = sumAt (ipHead ⟨src, dst, proto, id, off, more, whole, ttl, body⟩) 10 ++ body from rfl)
  have Hl3 := hid (ipHead_len ⟨src, dst, proto, id, off, more, whole, ttl, body⟩)
  have Hl4 := hid (show (sumAt (ipHead ⟨src, dst, proto, id, off, more, whole, ttl, body⟩) 10).length = 20 by rw [sumAt_len]; exact Hl3.out)
  rw [HF.out]
  generalize ipHead ⟨src, dst, proto, id, off, more, whole, ttl, body⟩ = hdr at *
  clear He1 He2 He3 HF hm
  have t1 : Value.int .u8 (ttl : Int) = u8v (UInt8.ofNat ttl) := by unfold u8v; rw [UInt8.toNat_ofNat']; exact val_int (by omega)
  have t2 : Value.int .u8 (proto : Int) = u8v (UInt8.ofNat proto) := by unfold u8v; rw [UInt8.toNat_ofNat']; exact val_int (by omega)
  have T1 := hid t1
  have T2 := hid t2
  clear t1 t2
  cases hmo : more
  · have hfo : fr = o8 := by rw [← hfr]; unfold ipFrag; rw [hmo]; simp; omega
    subst hfo
    clear hfr hoff hoff2
    subst hmo
    go_enter Try.func24, Try.ntmps24
    go_wp2_with (first | ((go_at_call 42; (with_reducible refine (putBe_any _ [69, 0] 2 _ [20 + m, id, fr] _ (Bs.alloc (bs_litm #[.int .u8 69, .int .u8 0] [69, 0] 2 _ rfl rfl (by decide) (by simp)) _) (u64_lit #[.int .u64 (20 + (m : Int)), .int .u64 (id : Int), .int .u64 (fr : Int)] [20 + m, id, fr] 3 _ (by simp) rfl (by simp) (by simp) (by simp <;> omega)) (by simp)).mono ?_); rintro e w' ⟨v1, rfl, hown, hb1⟩); rw [Hp1.out] at hown ⊢; simp only at hown ⊢; obtain ⟨A1, cap1, rfl⟩ := slice_len hown.bs Hl1.out; have Hown := hid (hown.mono (base' := w.heap.size + 1) (by simp <;> omega)); have KB := (bel1 (bel1 (Below.refl (w.heap.size + 1) (w.alloc (.cells #[.int .u32 (src : Int), .int .u32 (dst : Int), .int .i64 (proto : Int), .int .i64 (id : Int), .int .i64 off, .bool false, .bool whole, .int .i64 (ttl : Int), .slice A m cap] 25))) _) _).trans (hb1.mono (by simp <;> omega)); have hbk := (Blk.new w 25 #[.int .u32 (src : Int), .int .u32 (dst : Int), .int .i64 (proto : Int), .int .i64 (id : Int), .int .i64 off, .bool false, .bool whole, .int .i64 (ttl : Int), .slice A m cap]).below KB (Nat.lt_succ_self _); have kc0 := hbk.cell 0; have kc1 := hbk.cell 1; have kc2 := hbk.cell 2; have kc3 := hbk.cell 3; have kc7 := hbk.cell 7; have kc8 := hbk.cell 8; clear hbk; have Hb1 := hid KB; clear hown hb1 KB) | ((with_reducible show wpList _ _ _ (Oper.mk (some 104) _ _ _ _ _ :: _) _ _); refine wpList_app8 _ rfl _ _ 23 rfl (w.heap.size + 1) 5 u8ok _ h8 rfl (Hown.out.alloc _) _ [UInt8.ofNat ttl, UInt8.ofNat proto, 0, 0] rfl (bs_litm #[.int .u8 (ttl : Int), .int .u8 (proto : Int), .int .u8 0, .int .u8 0] [UInt8.ofNat ttl, UInt8.ofNat proto, 0, 0] 4 _ (by rw [T1.out, T2.out]; rfl) rfl (by decide) (by simp)) (by rw [Hl1.out]; simp) (by have := Hb1.out.size; simp at this; simp; omega) ?_; intro v2 w2 hown2 hb2 hg2 hat2; clear hg2 hat2; obtain ⟨A2, cap2, rfl⟩ := slice_len hown2.bs Hl2.out; have Hown2 := hid hown2; have KB := (bel1 Hb1.out _).trans hb2; clear kc0 kc1 kc2 kc3 kc7 kc8; have hbk := (Blk.new w 25 #[.int .u32 (src : Int), .int .u32 (dst : Int), .int .i64 (proto : Int), .int .i64 (id : Int), .int .i64 off, .bool false, .bool whole, .int .i64 (ttl : Int), .slice A m cap]).below KB (Nat.lt_succ_self _); have kc0 := hbk.cell 0; have kc1 := hbk.cell 1; have kc2 := hbk.cell 2; have kc3 := hbk.cell 3; have kc7 := hbk.cell 7; have kc8 := hbk.cell 8; clear hbk; have Hb2 := hid KB; clear hown2 hb2 KB) | ((go_at_call 42; (with_reducible refine (putBe_any _ (h8 ++ [UInt8.ofNat ttl, UInt8.ofNat proto, 0, 0]) 4 _ [src, dst] _ (Hown2.out.bs.alloc _) (u64_lit #[.int .u64 (src : Int), .int .u64 (dst : Int)] [src, dst] 2 _ rfl rfl (by simp) (by simp) (by simp <;> omega)) (by rw [Hl2.out]; simp)).mono ?_); rintro e w' ⟨v3, rfl, hown3, hb3⟩); rw [Hp2.out] at hown3 ⊢; simp only at hown3 ⊢; obtain ⟨g, cap3, hv3, q1, q2, q3⟩ := own_open hown3 (by rw [Hl3.out]; omega); rw [Hl3.out] at hv3; subst hv3; have Hown3 := hid (hown3.mono (base' := w.heap.size + 1) (by have := Hb2.out.size; simp at this; simp; omega)); have KB := (bel1 Hb2.out _).trans (hb3.mono (by have := Hb2.out.size; simp at this; simp; omega)); clear kc0 kc1 kc2 kc3 kc7 kc8; have Hq2 := hid (show w.heap.size + 1 ≤ g by have := Hb2.out.size; simp at this q2; omega); clear q1 q2 q3; have hbk := (Blk.new w 25 #[.int .u32 (src : Int), .int .u32 (dst : Int), .int .i64 (proto : Int), .int .i64 (id : Int), .int .i64 off, .bool false, .bool whole, .int .i64 (ttl : Int), .slice A m cap]).below KB (Nat.lt_succ_self _); have kc0 := hbk.cell 0; have kc1 := hbk.cell 1; have kc2 := hbk.cell 2; have kc3 := hbk.cell 3; have kc7 := hbk.cell 7; have kc8 := hbk.cell 8; clear hbk; have Hb3 := hid KB; clear hown3 hb3 KB) | ((go_at_call 34; (with_reducible refine (ipsum_any g cap3 hdr 20 10 10 _ (w.heap.size + 1) Hown3.out Hl3.out rfl (by rw [Hl3.out]; omega) (by rw [Hl3.out]; omega)).mono ?_); rintro e w' ⟨⟨u4, rfl⟩, hown4, hg4⟩); have Hown4 := hid hown4; have KB := below_own Hb3.out hg4 Hq2.out (by have := Hb3.out.size; simp at this; omega); clear kc0 kc1 kc2 kc3 kc7 kc8; have hbk := (Blk.new w 25 #[.int .u32 (src : Int), .int .u32 (dst : Int), .int .i64 (proto : Int), .int .i64 (id : Int), .int .i64 off, .bool false, .bool whole, .int .i64 (ttl : Int), .slice A m cap]).below KB (Nat.lt_succ_self _); have kc0 := hbk.cell 0; have kc1 := hbk.cell 1; have kc2 := hbk.cell 2; have kc3 := hbk.cell 3; have kc7 := hbk.cell 7; have kc8 := hbk.cell 8; clear hbk; have Hb4 := hid KB; clear hown4 hg4 KB) | ((with_reducible show wpList _ _ _ (Oper.mk (some 122) _ _ _ _ _ :: _) _ _); refine wpList_app8 _ rfl _ _ 23 rfl (w.heap.size + 1) 5 u8ok _ (sumAt hdr 10) rfl Hown4.out _ body rfl ((Hb.out.alloc _).below (by rw [World.size_alloc]; exact Hb4.out)) (by rw [Hl4.out, Hm.out]; omega) (by have := Hb4.out.size; simp at this; omega) ?_; intro v5 w5 hown5 hb5 hg5 hat5; clear hg5 hat5; have Hown5 := hid hown5; have Hb5 := hid (Hb4.out.trans hb5); clear hown5 hb5))
    go_ret2; exact ⟨_, rfl, Hown5.out.mono (by omega), (below_alloc w _).trans (Hb5.out.mono (by omega))⟩
  · have hfo : fr = o8 + 8192 := by rw [← hfr]; unfold ipFrag; rw [hmo]; simp; omega
    have v9 : bits .or .i64 (o8 : Int) 8192 = (fr : Int) := by rw [i64_or13 _ (by omega)]; omega
    obtain ⟨m1, m2⟩ := h5 hmo
    have y1 : ((m : Int) == 0) = false := by simp; omega
    have y2 : ((m : Int) % 8 != 0) = false := by simp; omega
    clear hfr hfo hoff hoff2
    subst hmo
    go_enter Try.func24, Try.ntmps24
    go_wp2_with (first | ((go_at_call 42; (with_reducible refine (putBe_any _ [69, 0] 2 _ [20 + m, id, fr] _ (Bs.alloc (bs_litm #[.int .u8 69, .int .u8 0] [69, 0] 2 _ rfl rfl (by decide) (by simp)) _) (u64_lit #[.int .u64 (20 + (m : Int)), .int .u64 (id : Int), .int .u64 (fr : Int)] [20 + m, id, fr] 3 _ (by simp) rfl (by simp) (by simp) (by simp <;> omega)) (by simp)).mono ?_); rintro e w' ⟨v1, rfl, hown, hb1⟩); rw [Hp1.out] at hown ⊢; simp only at hown ⊢; obtain ⟨A1, cap1, rfl⟩ := slice_len hown.bs Hl1.out; have Hown := hid (hown.mono (base' := w.heap.size + 1) (by simp <;> omega)); have KB := (bel1 (bel1 (Below.refl (w.heap.size + 1) (w.alloc (.cells #[.int .u32 (src : Int), .int .u32 (dst : Int), .int .i64 (proto : Int), .int .i64 (id : Int), .int .i64 off, .bool true, .bool whole, .int .i64 (ttl : Int), .slice A m cap] 25))) _) _).trans (hb1.mono (by simp <;> omega)); have hbk := (Blk.new w 25 #[.int .u32 (src : Int), .int .u32 (dst : Int), .int .i64 (proto : Int), .int .i64 (id : Int), .int .i64 off, .bool true, .bool whole, .int .i64 (ttl : Int), .slice A m cap]).below KB (Nat.lt_succ_self _); have kc0 := hbk.cell 0; have kc1 := hbk.cell 1; have kc2 := hbk.cell 2; have kc3 := hbk.cell 3; have kc7 := hbk.cell 7; have kc8 := hbk.cell 8; clear hbk; have Hb1 := hid KB; clear hown hb1 KB) | ((with_reducible show wpList _ _ _ (Oper.mk (some 104) _ _ _ _ _ :: _) _ _); refine wpList_app8 _ rfl _ _ 23 rfl (w.heap.size + 1) 5 u8ok _ h8 rfl (Hown.out.alloc _) _ [UInt8.ofNat ttl, UInt8.ofNat proto, 0, 0] rfl (bs_litm #[.int .u8 (ttl : Int), .int .u8 (proto : Int), .int .u8 0, .int .u8 0] [UInt8.ofNat ttl, UInt8.ofNat proto, 0, 0] 4 _ (by rw [T1.out, T2.out]; rfl) rfl (by decide) (by simp)) (by rw [Hl1.out]; simp) (by have := Hb1.out.size; simp at this; simp; omega) ?_; intro v2 w2 hown2 hb2 hg2 hat2; clear hg2 hat2; obtain ⟨A2, cap2, rfl⟩ := slice_len hown2.bs Hl2.out; have Hown2 := hid hown2; have KB := (bel1 Hb1.out _).trans hb2; clear kc0 kc1 kc2 kc3 kc7 kc8; have hbk := (Blk.new w 25 #[.int .u32 (src : Int), .int .u32 (dst : Int), .int .i64 (proto : Int), .int .i64 (id : Int), .int .i64 off, .bool true, .bool whole, .int .i64 (ttl : Int), .slice A m cap]).below KB (Nat.lt_succ_self _); have kc0 := hbk.cell 0; have kc1 := hbk.cell 1; have kc2 := hbk.cell 2; have kc3 := hbk.cell 3; have kc7 := hbk.cell 7; have kc8 := hbk.cell 8; clear hbk; have Hb2 := hid KB; clear hown2 hb2 KB) | ((go_at_call 42; (with_reducible refine (putBe_any _ (h8 ++ [UInt8.ofNat ttl, UInt8.ofNat proto, 0, 0]) 4 _ [src, dst] _ (Hown2.out.bs.alloc _) (u64_lit #[.int .u64 (src : Int), .int .u64 (dst : Int)] [src, dst] 2 _ rfl rfl (by simp) (by simp) (by simp <;> omega)) (by rw [Hl2.out]; simp)).mono ?_); rintro e w' ⟨v3, rfl, hown3, hb3⟩); rw [Hp2.out] at hown3 ⊢; simp only at hown3 ⊢; obtain ⟨g, cap3, hv3, q1, q2, q3⟩ := own_open hown3 (by rw [Hl3.out]; omega); rw [Hl3.out] at hv3; subst hv3; have Hown3 := hid (hown3.mono (base' := w.heap.size + 1) (by have := Hb2.out.size; simp at this; simp; omega)); have KB := (bel1 Hb2.out _).trans (hb3.mono (by have := Hb2.out.size; simp at this; simp; omega)); clear kc0 kc1 kc2 kc3 kc7 kc8; have Hq2 := hid (show w.heap.size + 1 ≤ g by have := Hb2.out.size; simp at this q2; omega); clear q1 q2 q3; have hbk := (Blk.new w 25 #[.int .u32 (src : Int), .int .u32 (dst : Int), .int .i64 (proto : Int), .int .i64 (id : Int), .int .i64 off, .bool true, .bool whole, .int .i64 (ttl : Int), .slice A m cap]).below KB (Nat.lt_succ_self _); have kc0 := hbk.cell 0; have kc1 := hbk.cell 1; have kc2 := hbk.cell 2; have kc3 := hbk.cell 3; have kc7 := hbk.cell 7; have kc8 := hbk.cell 8; clear hbk; have Hb3 := hid KB; clear hown3 hb3 KB) | ((go_at_call 34; (with_reducible refine (ipsum_any g cap3 hdr 20 10 10 _ (w.heap.size + 1) Hown3.out Hl3.out rfl (by rw [Hl3.out]; omega) (by rw [Hl3.out]; omega)).mono ?_); rintro e w' ⟨⟨u4, rfl⟩, hown4, hg4⟩); have Hown4 := hid hown4; have KB := below_own Hb3.out hg4 Hq2.out (by have := Hb3.out.size; simp at this; omega); clear kc0 kc1 kc2 kc3 kc7 kc8; have hbk := (Blk.new w 25 #[.int .u32 (src : Int), .int .u32 (dst : Int), .int .i64 (proto : Int), .int .i64 (id : Int), .int .i64 off, .bool true, .bool whole, .int .i64 (ttl : Int), .slice A m cap]).below KB (Nat.lt_succ_self _); have kc0 := hbk.cell 0; have kc1 := hbk.cell 1; have kc2 := hbk.cell 2; have kc3 := hbk.cell 3; have kc7 := hbk.cell 7; have kc8 := hbk.cell 8; clear hbk; have Hb4 := hid KB; clear hown4 hg4 KB) | ((with_reducible show wpList _ _ _ (Oper.mk (some 122) _ _ _ _ _ :: _) _ _); refine wpList_app8 _ rfl _ _ 23 rfl (w.heap.size + 1) 5 u8ok _ (sumAt hdr 10) rfl Hown4.out _ body rfl ((Hb.out.alloc _).below (by rw [World.size_alloc]; exact Hb4.out)) (by rw [Hl4.out, Hm.out]; omega) (by have := Hb4.out.size; simp at this; omega) ?_; intro v5 w5 hown5 hb5 hg5 hat5; clear hg5 hat5; have Hown5 := hid hown5; have Hb5 := hid (Hb4.out.trans hb5); clear hown5 hb5))
    go_ret2; exact ⟨_, rfl, Hown5.out.mono (by omega), (below_alloc w _).trans (Hb5.out.mono (by omega))⟩

set_option maxHeartbeats 4000000 in
theorem ipWrite_size (v : Value) (p : Pk) (w : World) (h : Bs w v p.body) (hl : p.body.length ≤ 1099511627776) (hb : ¬ ipBadArg p) (hz : ipBadSize p) :
    Calls Try.prog 24 #[.agg (pkCells p v).toArray] w fun e w' => ∃ v', e = .returned (.tuple #[v', .int .i64 14]) ∧ OwnBs w' w.heap.size 5 v' [] ∧ Below w.heap.size w w' := by
  obtain ⟨src, dst, proto, id, off, more, whole, ttl, body⟩ := p
  unfold ipBadArg at hb
  obtain ⟨h1, h2⟩ := hz
  simp only at hb hl h h1 h2
  obtain ⟨m, hm⟩ : ∃ m, body.length = m := ⟨_, rfl⟩
  obtain ⟨A, cap, rfl⟩ := slice_len h hm
  rw [hm] at hl h2
  clear h hm
  dsimp only [pkCells]
  subst h1
  have a1 : ¬ proto < 0 := by omega
  have a2 : ¬ proto > 255 := by omega
  have a3 : ¬ ttl < 0 := by omega
  have a4 : ¬ ttl > 255 := by omega
  have a5 : ¬ id < 0 := by omega
  have a6 : ¬ id > 65535 := by omega
  have a7 : ¬ off < 0 := by omega
  have a8 : ¬ off > 65528 := by omega
  have z1 : off.tmod 8 = off % 8 := by rw [Int.tmod_eq_emod_of_nonneg (by omega)]
  have z2 : (off % 8 != 0) = false := by simp; omega
  have z4 : (m : Int).tmod 8 = (m : Int) % 8 := by rw [Int.tmod_eq_emod_of_nonneg (by omega)]
  have hb' := hid hb
  clear hb
  by_cases y : m = 0
  · have y1 : ((m : Int) == 0) = true := by simp; omega
    clear h2
    (go_enter Try.func24, Try.ntmps24; go_wp2_with fail; go_ret2; exact ⟨_, rfl, OwnBs.nil _ _ _, below_alloc _ _⟩)
  · have y1 : ((m : Int) == 0) = false := by simp; omega
    have y2 : ((m : Int) % 8 != 0) = true := by simp; omega
    clear h2
    (go_enter Try.func24, Try.ntmps24; go_wp2_with fail; go_ret2; exact ⟨_, rfl, OwnBs.nil _ _ _, below_alloc _ _⟩)

set_option maxHeartbeats 4000000 in
theorem ipWrite_long (v : Value) (p : Pk) (w : World) (h : Bs w v p.body) (hl : p.body.length ≤ 1099511627776) (hb : ¬ ipBadArg p) (hz : ¬ ipBadSize p) (hlo : p.body.length > 65515) :
    Calls Try.prog 24 #[.agg (pkCells p v).toArray] w fun e w' => ∃ v', e = .returned (.tuple #[v', .int .i64 5]) ∧ OwnBs w' w.heap.size 5 v' [] ∧ Below w.heap.size w w' := by
  obtain ⟨src, dst, proto, id, off, more, whole, ttl, body⟩ := p
  unfold ipBadArg at hb
  unfold ipBadSize at hz
  simp only at hb hl h hz hlo
  obtain ⟨m, hm⟩ : ∃ m, body.length = m := ⟨_, rfl⟩
  obtain ⟨A, cap, rfl⟩ := slice_len h hm
  rw [hm] at hl hz hlo
  clear h hm
  dsimp only [pkCells]
  have a1 : ¬ proto < 0 := by omega
  have a2 : ¬ proto > 255 := by omega
  have a3 : ¬ ttl < 0 := by omega
  have a4 : ¬ ttl > 255 := by omega
  have a5 : ¬ id < 0 := by omega
  have a6 : ¬ id > 65535 := by omega
  have a7 : ¬ off < 0 := by omega
  have a8 : ¬ off > 65528 := by omega
  have z1 : off.tmod 8 = off % 8 := by rw [Int.tmod_eq_emod_of_nonneg (by omega)]
  have z2 : (off % 8 != 0) = false := by simp; omega
  have z4 : (m : Int).tmod 8 = (m : Int) % 8 := by rw [Int.tmod_eq_emod_of_nonneg (by omega)]
  have a9 : (m : Int) > 65515 := by omega
  have hb' := hid hb
  clear hb
  cases hmo : more
  · clear hz
    (go_enter Try.func24, Try.ntmps24; go_wp2_with fail; go_ret2; exact ⟨_, rfl, OwnBs.nil _ _ _, below_alloc _ _⟩)
  · have hz2 : ¬ (m = 0 ∨ m % 8 ≠ 0) := fun hh => hz ⟨hmo, hh⟩
    have y1 : ((m : Int) == 0) = false := by simp; omega
    have y2 : ((m : Int) % 8 != 0) = false := by simp; omega
    clear hz hz2
    (go_enter Try.func24, Try.ntmps24; go_wp2_with fail; go_ret2; exact ⟨_, rfl, OwnBs.nil _ _ _, below_alloc _ _⟩)

theorem pk_nat {p : Pk} (h : ¬ ipBadArg p) : ∃ (proto id o8 ttl : Nat), p = ⟨p.src, p.dst, (proto : Int), (id : Int), ((o8 * 8 : Nat) : Int), p.more, p.whole, (ttl : Int), p.body⟩ ∧ proto ≤ 255 ∧ ttl ≤ 255 ∧ id ≤ 65535 ∧ o8 ≤ 8191 := by
  unfold ipBadArg at h
  obtain ⟨src, dst, proto, id, off, more, whole, ttl, body⟩ := p
  simp only at h ⊢
  refine ⟨proto.toNat, id.toNat, (off / 8).toNat, ttl.toNat, ?_, by omega, by omega, by omega, by omega⟩
  congr 1 <;> omega

theorem ipWrite_any (v : Value) (p : Pk) (w : World) (h : Bs w v p.body) (hl : p.body.length ≤ 1099511627776) (hs : p.src < 4294967296) (hd : p.dst < 4294967296) :
    Calls Try.prog 24 #[.agg (pkCells p v).toArray] w fun e w' => ∃ v', e = .returned (.tuple #[v', .int .i64 (ipWrite p).2]) ∧ OwnBs w' w.heap.size 5 v' (ipWrite p).1 ∧ Below w.heap.size w w' := by
  unfold ipWrite
  by_cases hb : ipBadArg p
  · rw [if_pos hb]; exact ipWrite_bad v p w h hl hb
  rw [if_neg hb]
  by_cases hz : ipBadSize p
  · rw [if_pos hz]; exact ipWrite_size v p w h hl hb hz
  rw [if_neg hz]
  by_cases hlo : p.body.length > 65515
  · rw [if_pos hlo]; exact ipWrite_long v p w h hl hb hz hlo
  rw [if_neg hlo]
  obtain ⟨proto, id, o8, ttl, he, h1, h2, h3, h4⟩ := pk_nat hb
  have := ipWrite_ok v p.src p.dst proto id o8 ttl p.more p.whole p.body p.body.length rfl w h hs hd h1 h2 h3 h4 (fun hm => by
    unfold ipBadSize at hz
    have : ¬ (p.body.length = 0 ∨ p.body.length % 8 ≠ 0) := fun hh => hz ⟨hm, hh⟩
    omega) (by omega)
  rw [he]
  exact this
end Go.Proofs.Ytbjiicnagfeciaa
