/- Contract of ether's Write. -/
import Derived.Test.YtefpfjdfkecjkaaEthD
namespace Go.Proofs.Ytefpfjdfkecjkaa
open Go Go.RowKit
attribute [local go_sem ↓] Go.wp_at_zero Go.wp_at_succ
set_option maxRecDepth 100000

/-- append onto a slice that is full: a new row -/
theorem run_app_full {P : Program} {T E ty : TypeId} (w : World) (he : ElemOk P T E (.int .u8 0) 1 1) (a b : Addr) (n : Nat) (bs cs : List UInt8) (m c : Nat) (hbs : Bs w (.slice (some a) n n) bs) (hcs : Bs w (.slice (some b) m c) cs) (hm : 0 < m) (hn : 0 < n) (hs : n + m ≤ 1000000) :
    ∃ v' w', (Builtin.append_ #[T, T] ty #[.slice (some a) n n, .slice (some b) m c]).run P w = .ok v' w' ∧ OwnBs w' w.heap.size E v' (bs ++ cs) ∧ Below w.heap.size w w' := by
  obtain ⟨ht, ⟨i, hi, hz, hsize, hby⟩, hzs, hsz, hsm⟩ := he
  obtain ⟨hl1, _, _, k1⟩ := Bs.open hbs
  obtain ⟨hl2, _, _, k2⟩ := Bs.open hcs
  obtain ⟨g1, o1, e1, h1⟩ := k1.resolve_left (by omega)
  obtain ⟨g2, o2, e2, h2⟩ := k2.resolve_left (by omega)
  injection e1 with e1
  injection e2 with e2
  subst e1; subst e2
  have hfit : Builtin.nextslicecap (n + m) n * i.bytes ≤ 281474976710656 := growslice_fits_wide (by omega) (by rw [hby]; omega) (by omega)
  have hr := run_append_grow (P := P) w T ty E i _ ht hi hz ⟨g1, o1, none⟩ n n (bs.map u8v) (by rw [hsize, List.length_map]; omega) (fun j v hv => by
      rw [add_off]
      have hj : j < bs.length := by have := (List.getElem?_eq_some_iff.1 hv).1; simpa using this
      rw [h1 j hj, ← hv]; simp [hj]) ⟨g2, o2, none⟩ m c (cs.map u8v) (by rw [hsize, List.length_map]; omega) (fun j v hv => by
      rw [add_off]
      have hj : j < cs.length := by have := (List.getElem?_eq_some_iff.1 hv).1; simpa using this
      rw [h2 j hj, ← hv]; simp [hj]) (by omega) (by omega) hfit
  refine ⟨_, _, hr, ?_, (below_drew w).trans (below_alloc w.drew _)⟩
  have hge := grownCap_ge w (n + m) n E
  have hcm := grownCap_le_maxLen w (n + m) n E (by simp only [maxLen]; omega)
  unfold OwnBs
  have hlen : (bs ++ cs).length = n + m := by simp; omega
  rw [hlen]
  refine ⟨by simp; omega, .inr ⟨w.heap.size, _, _, rfl, Nat.le_refl _, heap_alloc_new w.drew _, hge, hcm, ?_, ?_⟩⟩
  · have e0 : (Value.int .u8 0).cells.size = 1 := rfl
    simp only [Array.size_append, List.size_toArray, List.length_map, size_zeroCells, e0]
    omega
  · simp only [Array.toList_append, List.append_assoc, Nat.mul_one]
    rw [← List.append_assoc, ← List.map_append, show n + m = ((bs ++ cs).map u8v).length by rw [List.length_map]; omega]
    exact List.take_left
theorem step_app_full {P : Program} (w : World) {ops : Array Oper} {o : Oper} {a : Act} {K : Act → World → Prop} {Q : Exit → Act → World → Prop} {Ep : Prop} (hgd : o.guard = none) (s x : Operand) (T : TypeId)
    (ho : o.op = .call { callee := .builtin .append, args := #[s, x], argTypes := #[T, T] }) (E : TypeId) (he : ElemOk P T E (.int .u8 0) 1 1)
    (p q : Addr) (n : Nat) (bs cs : List UInt8) (m c : Nat) (hs : a.eval s = .slice (some p) n n) (hx : a.eval x = .slice (some q) m c) (hbs : Bs w (.slice (some p) n n) bs) (hcs : Bs w (.slice (some q) m c) cs) (hm : 0 < m) (hn : 0 < n) (hsm : n + m ≤ 1000000)
    (h : ∀ v' w', OwnBs w' w.heap.size E v' (bs ++ cs) → Below w.heap.size w w' → K (a.put o.dst v') w') :
    if Region.wanted o (yielded ops a.tmps) = true then Oper.wp P o a w K Q else Ep := by
  have hw : Region.wanted o (yielded ops a.tmps) = true := by simp [Region.wanted, hgd]
  rw [if_pos hw]
  obtain ⟨v', w', hrun, h2, h3⟩ := run_app_full (P := P) (T := T) (ty := o.type) w he p q n bs cs m c hbs hcs hm hn hsm
  unfold Oper.wp execOp
  simp only [ho, resolve, invoke, builtin, Sem.run_bind, Sem.run_pure, Result.andThen_ok, List.map_toArray, List.map_cons, List.map_nil, hs, hx, hrun]
  exact h v' w' h2 h3

theorem lit_u64 {w w' : World} {e : TypeId} {x : Nat} (hx : x < 18446744073709551616) (h : Below (w.alloc (.cells #[.int .u64 (x : Int)] e)).heap.size (w.alloc (.cells #[.int .u64 (x : Int)] e)) w') : U64s w' (.slice (some ⟨w.heap.size, 0, none⟩) 1 1) [x] :=
  (u64_lit #[.int .u64 (x : Int)] [x] 1 _ rfl rfl (by simp) rfl (by intro y hy; simp at hy; subst hy; exact hx)).below h
theorem lit1_u64 {w : World} {e : TypeId} {x : Nat} (hx : x < 18446744073709551616) : U64s (w.alloc (.cells #[.int .u64 (x : Int)] e)) (.slice (some ⟨w.heap.size, 0, none⟩) 1 1) [x] :=
  u64_lit #[.int .u64 (x : Int)] [x] 1 _ rfl rfl (by simp) rfl (by intro y hy; simp at hy; subst hy; exact hx)

def eWrite (f : Frm) : List UInt8 × Int := if f.kind < 0 ∨ f.kind > 65535 then ([], 1) else if f.body.length > 1500 then ([], 14) else (f.dst.bytes ++ (f.src.bytes ++ (beBytes 2 f.kind.toNat ++ f.body)), 0)
def WritePost (f : Frm) (w : World) (e : Ending) (w' : World) : Prop :=
  ∃ v', e = .returned (.tuple #[v', .int .i64 (eWrite f).2]) ∧ OwnBs w' w.heap.size 5 v' (eWrite f).1 ∧ Below w.heap.size w w'

theorem write_any (f : Frm) (A : Option Addr) (n cap : Nat) (w : World) (h : Bs w (.slice A n cap) f.body) : Calls Try.prog 10 #[f.val (.slice A n cap)] w (WritePost f w) := by
  obtain ⟨⟨a0, a1, a2, a3, a4, a5⟩, ⟨b0, b1, b2, b3, b4, b5⟩, kind, body⟩ := f
  have hn : body.length = n := by obtain ⟨_, _, _, hv, _⟩ := h; injection hv with _ h2; exact h2.symm
  dsimp only [Frm.val, Frm.cells, Mac.cells, List.cons_append, List.nil_append] at h ⊢
  by_cases hk : kind < 0 ∨ kind > 65535
  · have Hp := hid (show eWrite ⟨⟨a0, a1, a2, a3, a4, a5⟩, ⟨b0, b1, b2, b3, b4, b5⟩, kind, body⟩ = ([], 1) by unfold eWrite; rw [if_pos hk])
    have t1 : kind < 0 ∨ ¬ kind < 0 ∧ kind > 65535 := by omega
    clear hk h hn
    rcases t1 with t1 | ⟨t1, t2⟩
    all_goals
      go_enter Try.func10, Try.ntmps10
      go_wp2_with fail
      go_ret2
      unfold WritePost
      rw [Hp.out]
      exact ⟨_, rfl, OwnBs.nil _ _ _, below_alloc w _⟩
  have t1 : ¬ kind < 0 := by omega
  have t2 : ¬ kind > 65535 := by omega
  obtain ⟨k, rfl⟩ : ∃ k : Nat, kind = k := ⟨kind.toNat, by omega⟩
  by_cases hlong : n > 1500
  · have Hp := hid (show eWrite ⟨⟨a0, a1, a2, a3, a4, a5⟩, ⟨b0, b1, b2, b3, b4, b5⟩, k, body⟩ = ([], 14) by unfold eWrite; rw [if_neg hk, if_pos (by rw [hn]; exact hlong)])
    have t3 : (n : Int) > 1500 := by omega
    clear hk h hn
    go_enter Try.func10, Try.ntmps10
    go_wp2_with fail
    go_ret2
    unfold WritePost
    rw [Hp.out]
    exact ⟨_, rfl, OwnBs.nil _ _ _, below_alloc w _⟩
  have t3 : ¬ (n : Int) > 1500 := by omega
  have Hp := hid (show eWrite ⟨⟨a0, a1, a2, a3, a4, a5⟩, ⟨b0, b1, b2, b3, b4, b5⟩, k, body⟩ = ((Mac.mk a0 a1 a2 a3 a4 a5).bytes ++ ((Mac.mk b0 b1 b2 b3 b4 b5).bytes ++ (beBytes 2 k ++ body)), 0) by unfold eWrite; rw [if_neg hk, if_neg (by rw [hn]; exact hlong)]; simp)
  have hcap : n ≤ cap := by obtain ⟨_, _, _, hv, h1, _⟩ := h; injection hv with _ e2 e3; omega
  have HB := hid (h.alloc (.cells #[.int .u8 (a0.toNat : Int), .int .u8 (a1.toNat : Int), .int .u8 (a2.toNat : Int), .int .u8 (a3.toNat : Int), .int .u8 (a4.toNat : Int), .int .u8 (a5.toNat : Int), .int .u8 (b0.toNat : Int), .int .u8 (b1.toNat : Int), .int .u8 (b2.toNat : Int), .int .u8 (b3.toNat : Int), .int .u8 (b4.toNat : Int), .int .u8 (b5.toNat : Int), .int .i64 (k : Int), .slice A n cap] 25))
  have Bk := hid (Blk.new w 25 #[.int .u8 (a0.toNat : Int), .int .u8 (a1.toNat : Int), .int .u8 (a2.toNat : Int), .int .u8 (a3.toNat : Int), .int .u8 (a4.toNat : Int), .int .u8 (a5.toNat : Int), .int .u8 (b0.toNat : Int), .int .u8 (b1.toNat : Int), .int .u8 (b2.toNat : Int), .int .u8 (b3.toNat : Int), .int .u8 (b4.toNat : Int), .int .u8 (b5.toNat : Int), .int .i64 (k : Int), .slice A n cap])
  have HW := hid (below_alloc w (.cells #[.int .u8 (a0.toNat : Int), .int .u8 (a1.toNat : Int), .int .u8 (a2.toNat : Int), .int .u8 (a3.toNat : Int), .int .u8 (a4.toNat : Int), .int .u8 (a5.toNat : Int), .int .u8 (b0.toNat : Int), .int .u8 (b1.toNat : Int), .int .u8 (b2.toNat : Int), .int .u8 (b3.toNat : Int), .int .u8 (b4.toNat : Int), .int .u8 (b5.toNat : Int), .int .i64 (k : Int), .slice A n cap] 25))
  have Hsz := hid (show (w.alloc (.cells #[.int .u8 (a0.toNat : Int), .int .u8 (a1.toNat : Int), .int .u8 (a2.toNat : Int), .int .u8 (a3.toNat : Int), .int .u8 (a4.toNat : Int), .int .u8 (a5.toNat : Int), .int .u8 (b0.toNat : Int), .int .u8 (b1.toNat : Int), .int .u8 (b2.toNat : Int), .int .u8 (b3.toNat : Int), .int .u8 (b4.toNat : Int), .int .u8 (b5.toNat : Int), .int .i64 (k : Int), .slice A n cap] 25)).heap.size = w.heap.size + 1 by simp)
  have Hn := hid hn
  have hkw : IntKind.u64.wrap (k : Int) = (k : Int) := IntWalk.u64_in _ (by omega)
  clear h hk hn hlong
  go_enter Try.func10, Try.ntmps10
  go_upto_region 5 with fail
  generalize w.alloc (.cells #[.int .u8 (a0.toNat : Int), .int .u8 (a1.toNat : Int), .int .u8 (a2.toNat : Int), .int .u8 (a3.toNat : Int), .int .u8 (a4.toNat : Int), .int .u8 (a5.toNat : Int), .int .u8 (b0.toNat : Int), .int .u8 (b1.toNat : Int), .int .u8 (b2.toNat : Int), .int .u8 (b3.toNat : Int), .int .u8 (b4.toNat : Int), .int .u8 (b5.toNat : Int), .int .i64 (k : Int), .slice A n cap] 25) = wz at *
  have c12 := Bk.out.cell 12
  have c13 := Bk.out.cell 13
  have hz1 : Bs wz (.slice (some ⟨w.heap.size, 0, none⟩) 6 6) (Mac.mk a0 a1 a2 a3 a4 a5).bytes := Bk.out.bs (off := 0) (n := 6) (cap := 6) rfl rfl (Nat.le_refl _) (by simp [maxLen])
  have hz2 : Bs wz (.slice (some ⟨w.heap.size, 6, none⟩) 6 6) (Mac.mk b0 b1 b2 b3 b4 b5).bytes := Bk.out.bs (off := 6) (n := 6) (cap := 6) rfl rfl (Nat.le_refl _) (by simp [maxLen])
  have Hpf := hid (put_fits beBytes ((Mac.mk a0 a1 a2 a3 a4 a5).bytes ++ (Mac.mk b0 b1 b2 b3 b4 b5).bytes) 2 2 [k] rfl rfl (by intro x hx; simp at hx; subst hx; omega))
  have Hla := hid (show (Mac.mk a0 a1 a2 a3 a4 a5).bytes.length = 6 from rfl)
  have Hls := hid (show (Mac.mk b0 b1 b2 b3 b4 b5).bytes.length = 6 from rfl)
  generalize (Mac.mk a0 a1 a2 a3 a4 a5).bytes = da at *
  generalize (Mac.mk b0 b1 b2 b3 b4 b5).bytes = sa at *
  have hkI : (k : Int) < 65536 := by omega
  go_region_held3 (fun wy => wy.cell? ⟨w.heap.size, 12, none⟩ = some (.int .i64 (k : Int))) ((repeat (first | exact c12 | exact cell_below Hb4.out c12 | exact cell_below Hb3.out c12 | (with_reducible refine cell_below (below_alloc _ _) ?_) | (with_reducible refine cell_below (below_drew _) ?_)))) (first
    | (refine step_app_full _ (by rfl) _ _ 22 (by rfl) 5 u8ok ⟨w.heap.size, 0, none⟩ ⟨w.heap.size, 6, none⟩ 6 da sa 6 6 (by rfl) (by rfl) (by (repeat (first | exact hz1 | refine Bs.drew ?_ | refine Bs.alloc ?_ _))) (by (repeat (first | exact hz2 | refine Bs.drew ?_ | refine Bs.alloc ?_ _))) (by decide) (by decide) (by decide) ?_; intro v3 w3 hown3 hb1; have hb3 : Below wz.heap.size wz w3 := (by first | exact hb1 | exact first_below hb1 | exact below_lit hb1 | exact first_below (below_lit hb1) | exact below_lit (first_below hb1)); have Hown3 := hid (hown3.mono (base' := wz.heap.size) (by simp)); have Hb3 := hid hb3; (first | (have HU1 := hid (lit_u64 (x := k) (by omega) hb1)) | (have HU1 := hid (lit_u64 (x := k) (by omega) (first_below hb1))) | skip); have hz3 := Hown3.out.bs; clear hown3 hb1 hb3)
    | (go_at_call 27; (refine (putBe_any v3 (da ++ sa) 2 _ [k] _ (by (repeat (first | exact hz3 | refine Bs.drew ?_ | refine Bs.alloc ?_ _))) (by first | exact HU1.out | exact lit1_u64 (by omega)) (by simp [Hla.out, Hls.out])).mono ?_); rintro e w4 ⟨v4, rfl, hown4, hb1⟩; rw [Hpf.out] at hown4 ⊢; simp only at hown4 ⊢; have Hb4 := hid (show Below wz.heap.size wz w4 from Hb3.out.trans ((show Below w3.heap.size w3 w4 by first | exact hb1 | exact first_below hb1 | exact below_lit hb1 | exact first_below (below_lit hb1) | exact below_lit (first_below hb1)).mono Hb3.out.size)); have Hown4 := hid (hown4.mono (base' := wz.heap.size) (by have := Hb3.out.size; simp; omega)); clear hown4 hb1)
    | fail)
  all_goals
    have d13 := cell_below Hb4.out c13
    have HL := hid (show (da ++ sa ++ List.flatMap (beBytes 2) [k]).length ≤ 1000 by have := Hla.out; have := Hls.out; simp [beBytes_len]; omega)
    have hnl := Hn.out
    clear c12 c13
    go_wp2_with ((with_reducible show wpList _ _ _ (Oper.mk (some 36) _ _ _ _ _ :: _) _ _); refine wpList_app8 _ rfl _ _ 22 rfl wz.heap.size 5 u8ok v4 _ rfl Hown4.out _ body rfl (HB.out.below Hb4.out) (by have := HL.out; omega) Hb4.out.size ?_; intro v5 w5 hown5 hb5 hg5 hat5; have Hown5 := hid hown5; have Hb5 := hid hb5; clear hown5 hb5 hg5 hat5)
    go_ret2
    unfold WritePost
    rw [Hp.out]
    refine ⟨_, rfl, ?_, HW.out.trans ((Hb4.out.trans Hb5.out).mono HW.out.size)⟩
    have := Hown5.out.mono (base' := w.heap.size) HW.out.size
    simpa using this
end Go.Proofs.Ytefpfjdfkecjkaa
