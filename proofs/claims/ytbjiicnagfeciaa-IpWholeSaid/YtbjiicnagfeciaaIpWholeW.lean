/- The walk of IpWhole. -/
import Derived.Test.YtbjiicnagfeciaaPtZ
import Derived.Test.YtbjiicnagfeciaaPtQ
import Derived.Test.YtbjiicnagfeciaaIpWi
import Derived.Test.YtbjiicnagfeciaaIpL
import Derived.Test.YtbjiicnagfeciaaIpCutC
namespace Go.Proofs.Ytbjiicnagfeciaa
open Go Go.RowKit
attribute [local go_sem ↓] Go.wp_at_zero Go.wp_at_succ
set_option maxRecDepth 100000

theorem OwnPkL.frame {w w' : World} {base : Nat} {E U : TypeId} {v : Value} {l : List Pk} {G : Nat → Prop} (h : OwnPkL w base E U v l) (hf : Frame G w w') (hG : ∀ k, base ≤ k → k < w.heap.size → ¬ G k) : OwnPkL w' base E U v l := by
  obtain ⟨qs, ⟨h1, h2⟩, h3⟩ := h
  exact ⟨qs, ⟨fun q hq => hf.own (h1 q hq) fun k hk => hG k (own_at (h1 q hq) hk).1 (own_at (h1 q hq) hk).2, hf.own h2 fun k hk => hG k (own_at h2 hk).1 (own_at h2 hk).2⟩, h3⟩
/-- which of n have come -/
def flags (n : Nat) (js : List Nat) : List Value := (List.range n).map fun j => .bool (decide (j ∈ js))
theorem flags_nil (n : Nat) : flags n [] = List.replicate n (.bool false) := by
  unfold flags
  apply List.ext_getElem
  · simp
  · intro i h1 h2; simp
theorem flags_set (n : Nat) (js : List Nat) (k : Nat) : (flags n js).set k (.bool true) = flags n (js ++ [k]) := by
  unfold flags
  apply List.ext_getElem
  · simp
  · intro i h1 h2
    rw [List.getElem_set]
    by_cases e : k = i
    · subst e; simp
    · rw [if_neg e]; simp [Ne.symm e]
theorem flags_at (n : Nat) (js : List Nat) (k : Nat) (h : k < n) : (flags n js)[k]? = some (.bool (decide (k ∈ js))) := by
  unfold flags
  simp [h]

theorem ownBs_store2 {w w' : World} {base g : Nat} {e : TypeId} {v : Value} {bs : List UInt8} (h : OwnBs w base e v bs) (hg : w.grownBy w' (some g)) (hn : v.ownBlock ≠ some g) : OwnBs w' base e v bs := by
  refine World.ownsRow.kept h hg ?_
  rcases hv : v.ownBlock with _ | g1
  · exact .inl rfl
  · right
    intro e2
    exact hn (hv.trans e2)
/-- for each rest below n there is a number from 100 on below 100 + n -/
theorem residue (n r : Nat) (h : r < n) : ∃ j, 100 ≤ j ∧ j < 100 + n ∧ j % n = r := by
  have h1 := Nat.div_add_mod 100 n
  have h2 := Nat.mod_lt 100 (show n > 0 by omega)
  by_cases hc : 100 % n ≤ r
  · refine ⟨100 + (r - 100 % n), by omega, by omega, ?_⟩
    rw [show 100 + (r - 100 % n) = n * (100 / n) + r by omega, Nat.mul_add_mod, Nat.mod_eq_of_lt h]
  · refine ⟨100 + (n + r - 100 % n), by omega, by omega, ?_⟩
    rw [show 100 + (n + r - 100 % n) = n * (100 / n + 1) + r by rw [Nat.mul_add, Nat.mul_one]; omega, Nat.mul_add_mod, Nat.mod_eq_of_lt h]
/-- what stands while the parts come -/
structure Lp (w0 w3 wr : World) (g gs bx M : Nat) (pc oc ob : List Value) (ov : Value) (n : Nat) (js : List Nat) (st : List Wt) (m : Nat) (F : Nat → Prop) : Prop where
  inv : PtInv wr w3.heap.size g st m F
  nb : ¬ F bx
  ns : ¬ F gs
  p : Blk wr w0.heap.size 25 pc
  o : Blk wr (w0.heap.size + 1) 25 oc
  r : RowAtS wr w0.heap.size 5 1 ov ob.length ob
  rb : ∀ k, ov.ownBlock = some k → k = bx
  f : Blk wr gs 4 (flags n js)
  mid : Frame (fun k => k < M ∨ w3.heap.size ≤ k) w3 wr
  bel : Below w0.heap.size w0 wr
  lo : w0.heap.size + 2 ≤ w3.heap.size
  hi : bx < wr.heap.size ∧ gs < wr.heap.size ∧ w3.heap.size ≤ gs ∧ w3.heap.size ≤ wr.heap.size
theorem Lp.add {w0 w3 wr w' : World} {g gs bx M : Nat} {pc oc ob : List Value} {ov : Value} {n : Nat} {js : List Nat} {st st' : List Wt} {m m' : Nat} {F F' : Nat → Prop} (h : Lp w0 w3 wr g gs bx M pc oc ob ov n js st m F) (hi : PtInv w' w3.heap.size g st' m' F') (hf : Frame F wr w') (hF : ∀ k, F' k → F k ∨ wr.heap.size ≤ k) : Lp w0 w3 w' g gs bx M pc oc ob ov n js st' m' F' where
  inv := hi
  nb q := by rcases hF _ q with q | q; exact h.nb q; have := h.hi; omega
  ns q := by rcases hF _ q with q | q; exact h.ns q; have := h.hi; omega
  p := hf.blk h.p (fun q => by have := (h.inv.lt _ q).1; have := h.lo; omega)
  o := hf.blk h.o (fun q => by have := (h.inv.lt _ q).1; have := h.lo; omega)
  r := h.r.same fun k hk => hf.block k (h.r.lt hk).2 (fun q => h.nb (by rw [← h.rb k hk]; exact q))
  rb := h.rb
  f := hf.blk h.f h.ns
  mid := h.mid.trans hf (fun _ _ q => .inr (h.inv.lt _ q).1)
  bel := Frame.below ((Below.frameF h.bel F).trans hf (fun _ _ h => h)) (fun k q => by have := (h.inv.lt k q).1; have := h.lo; omega) (Nat.le_refl _)
  lo := h.lo
  hi := by have := hf.size; have := h.hi; omega
theorem Lp.keep {w0 w3 wr w' : World} {g gs bx M : Nat} {pc oc ob : List Value} {ov : Value} {n : Nat} {js : List Nat} {st : List Wt} {m : Nat} {F : Nat → Prop} (h : Lp w0 w3 wr g gs bx M pc oc ob ov n js st m F) (hb : Below wr.heap.size wr w') : Lp w0 w3 w' g gs bx M pc oc ob ov n js st m F :=
  h.add (h.inv.keep hb) (Below.frameF hb F) (fun _ hk => .inl hk)
theorem Lp.flag {w0 w3 wr : World} {g gs bx M : Nat} {pc oc ob : List Value} {ov : Value} {n : Nat} {js : List Nat} {st : List Wt} {m : Nat} {F : Nat → Prop} (h : Lp w0 w3 wr g gs bx M pc oc ob ov n js st m F) (hne : bx ≠ gs) (k : Nat) : Lp w0 w3 (wr.setCell ⟨gs, k, none⟩ (.bool true)) g gs bx M pc oc ob ov n (js ++ [k]) st m F := by
  have hgs := grown_set wr gs k (.bool true)
  have h1 := h.lo
  have h2 := h.hi
  refine ⟨h.inv.frame (frame_one hgs) (fun q hq e => by subst e; exact h.ns hq), h.nb, h.ns, h.p.far (by simp; omega) _, h.o.far (by simp; omega) _, h.r.same fun q hq => hgs.block q (h.r.lt hq).2 (fun e => ?_), h.rb, ?_, h.mid.trans (frame_one hgs) (fun q _ e => by subst e; exact .inr h2.2.2.1), Below.grown h.bel hgs h.bel.size (fun q hq => by injection hq with hq; omega), h.lo, ?_⟩
  · injection e with e
    subst e
    exact hne (h.rb _ hq).symm
  · have := h.f.set_ k (.bool true)
    rw [flags_set] at this
    exact this
  · have := hgs.size
    omega

set_option maxHeartbeats 4000000 in
theorem ipWhole_walk (v vo vor : Value) (p o : Pk) (mtu : Int) (order : List Int) (w : World) (hp : Bs w v p.body) (ho : Bs w vo o.body) (hor : RowN w 1 vor order.length (order.map fun x => Value.int .i64 x)) (hpk : p.key.Ok) (hok : o.key.Ok) :
    Calls Try.prog 5 #[.agg (pkCells p v).toArray, .int .i64 mtu, vor, .agg (pkCells o vo).toArray] w fun e w' => e = .returned (.bool true) ∧ Below w.heap.size w w' := by
  obtain ⟨src, dst, proto, id, off, more, whole, ttl, body⟩ := p
  obtain ⟨osrc, odst, oproto, oid, ooff, omore, owhole, ottl, obody⟩ := o
  have Hp := hid hp
  have Ho := hid ho
  have Hor := hid hor
  have Hpk := hid hpk
  have Hok := hid hok
  obtain ⟨_, A, cap, rfl, k1, k2, _⟩ := (show RowN w 1 v body.length (body.map u8v) from hp)
  obtain ⟨_, oA, ocap, rfl, ok1, ok2, _⟩ := (show RowN w 1 vo obody.length (obody.map u8v) from ho)
  obtain ⟨_, rA, rcap, rfl, rk1, rk2, _⟩ := (show RowN w 1 vor order.length (order.map fun x => Value.int .i64 x) from hor)
  simp only at Hp Ho
  have ok3 : ocap ≤ 9223372036854775807 := by simp only [maxLen] at ok2; omega
  have rk3 : rcap ≤ 9223372036854775807 := by simp only [maxLen] at rk2; omega
  have hids := hok
  have hid2 := hpk.ilo
  have hid3 := hpk.ihi
  simp only [Pk.key] at hid2 hid3
  clear hp ho hor hpk hok hids k2 ok2 rk2
  dsimp only [pkCells]
  have HB0 := hid (below_alloc' (below_alloc w (.cells #[.int .u32 (src : Int), .int .u32 (dst : Int), .int .i64 proto, .int .i64 id, .int .i64 off, .bool more, .bool whole, .int .i64 ttl, .slice A body.length cap] 25)) (.cells #[.int .u32 (osrc : Int), .int .u32 (odst : Int), .int .i64 oproto, .int .i64 oid, .int .i64 ooff, .bool omore, .bool owhole, .int .i64 ottl, .slice oA obody.length ocap] 25))
  have HP0 := hid ((Blk.new w 25 #[.int .u32 (src : Int), .int .u32 (dst : Int), .int .i64 proto, .int .i64 id, .int .i64 off, .bool more, .bool whole, .int .i64 ttl, .slice A body.length cap]).alloc (.cells #[.int .u32 (osrc : Int), .int .u32 (odst : Int), .int .i64 oproto, .int .i64 oid, .int .i64 ooff, .bool omore, .bool owhole, .int .i64 ottl, .slice oA obody.length ocap] 25))
  have HO0 : Hid (Blk ((w.alloc (.cells #[.int .u32 (src : Int), .int .u32 (dst : Int), .int .i64 proto, .int .i64 id, .int .i64 off, .bool more, .bool whole, .int .i64 ttl, .slice A body.length cap] 25)).alloc (.cells #[.int .u32 (osrc : Int), .int .u32 (odst : Int), .int .i64 oproto, .int .i64 oid, .int .i64 ooff, .bool omore, .bool owhole, .int .i64 ottl, .slice oA obody.length ocap] 25)) (w.heap.size + 1) 25 _) := hid (by have := Blk.new (w.alloc (.cells #[.int .u32 (src : Int), .int .u32 (dst : Int), .int .i64 proto, .int .i64 id, .int .i64 off, .bool more, .bool whole, .int .i64 ttl, .slice A body.length cap] 25)) 25 #[.int .u32 (osrc : Int), .int .u32 (odst : Int), .int .i64 oproto, .int .i64 oid, .int .i64 ooff, .bool omore, .bool owhole, .int .i64 ottl, .slice oA obody.length ocap]; rw [World.size_alloc] at this; exact this)
  by_cases hbig : body.length > 4000 ∨ obody.length > 4000
  · have hb2 : (body.length : Int) > 4000 ∨ ¬ (body.length : Int) > 4000 ∧ (obody.length : Int) > 4000 := by omega
    clear hbig
    rcases hb2 with h1 | ⟨h1, h2⟩
    all_goals
      go_enter Try.func5, Try.ntmps5
      go_wp2_with (first
        | ((go_at_call 10; refine (known_any _).mono ?_; rintro e w' ⟨rfl, hb1⟩); have Hb1 := hid (HB0.out.trans (hb1.mono (by simp; omega))); have e8 := (HP0.out.keep hb1).cell 8; have o8 := (HO0.out.keep hb1).cell 8; clear hb1)
        | fail)
      go_ret
      exact ⟨rfl, Hb1.out⟩
  have hb1 : ¬ (body.length : Int) > 4000 := by omega
  have hb2 : ¬ (obody.length : Int) > 4000 := by omega
  have Hl1 := hid (show body.length ≤ 4000 by omega)
  have Hl2 := hid (show obody.length ≤ 4000 by omega)
  clear hbig
  go_enter Try.func5, Try.ntmps5
  go_upto_region 5 with (first
        | ((go_at_call 10; refine (known_any _).mono ?_; rintro e w' ⟨rfl, hb1⟩); have Hb1 := hid (HB0.out.trans (hb1.mono (by simp; omega))); have HP1 := hid (HP0.out.keep hb1); have HO1 := hid (HO0.out.keep hb1); have e8 := (HP0.out.keep hb1).cell 8; have o8 := (HO0.out.keep hb1).cell 8; have Hs1 := hid (show w.heap.size + 2 ≤ w'.heap.size from by have := hb1.size; simpa using this); clear hb1)
        | fail)
  clear hb1 hb2
  have e4 : w'.cell? ⟨w.heap.size, 4, none⟩ = some (.int .i64 off) := HP1.out.cell 4
  have e5 : w'.cell? ⟨w.heap.size, 5, none⟩ = some (.bool more) := HP1.out.cell 5
  have z4 := HP1.out.frozen 4
  have z5 := HP1.out.frozen 5
  have hg2 := grown_trans (grown_set w' w.heap.size 5 (.bool false)) (grown_set _ w.heap.size 4 (.int .i64 0))
  have HP2 := hid ((HP1.out.set_ 5 (.bool false)).set_ 4 (.int .i64 0))
  have HO2 := hid (HO1.out.grown hg2 (fun e => by injection e with e; omega))
  have HB2 := hid (below_own Hb1.out hg2 (Nat.le_refl _) Hb1.out.size)
  have Hs2 := hid (Nat.le_trans Hs1.out hg2.size)
  clear hg2 hid2 hid3
  go_upto_region 6 with fail
  generalize (w'.setCell ⟨w.heap.size, 5, none⟩ (.bool false)).setCell ⟨w.heap.size, 4, none⟩ (.int .i64 0) = w2 at *
  clear e4 e5 z4 z5 e8 o8
  have HW := hid (within_any mtu 600 w2 (by omega) (by omega))
  have hwm : ∀ k : Nat, k < 600 → IntKind.i64.wrap (28 + (k : Int)) = 28 + (k : Int) := fun k hk => IntWalk.i64_in _ (by omega)
  have Hwm := hid hwm
  obtain ⟨idn, hidn⟩ : ∃ z, IntKind.i64.wrap (id + 1) = z := ⟨_, rfl⟩
  have hni := next_id id Hpk.out.ilo Hpk.out.ihi
  rw [hidn] at hni
  have Hni := hid hni
  have Hbp2 := hid (Hp.out.below HB2.out)
  have HC := hid (fun (mk : Nat) (hmk : mk < 600) => show ∃ l I, ipCut (⟨src, dst, proto, id, 0, false, whole, ttl, body⟩ : Pk) (28 + (mk : Int)) = (l, 0) ∧ 0 < l.length ∧ l.length ≤ 4000 ∧ (∀ q ∈ l, q.key = Pk.key (⟨src, dst, proto, id, 0, false, whole, ttl, body⟩ : Pk) ∧ q.body.length ≤ 4000) ∧ Plan (⟨src, dst, proto, id, 0, false, whole, ttl, body⟩ : Pk) (othPk (⟨osrc, odst, oproto, oid, ooff, omore, owhole, ottl, obody⟩ : Pk) idn) l I ∧
      Calls Try.prog 11 #[.agg #[.int .u32 (src : Int), .int .u32 (dst : Int), .int .i64 proto, .int .i64 id, .int .i64 0, .bool false, .bool whole, .int .i64 ttl, .slice A body.length cap], .int .i64 (28 + (mk : Int))] w2 fun e w' => ∃ v', e = .returned (.tuple #[v', .int .i64 0]) ∧ OwnPkL w' w2.heap.size 25 5 v' l ∧ Below w2.heap.size w2 w' by
    obtain ⟨l, I, h1, h2, h3, h4, h5⟩ := cut_plan (⟨src, dst, proto, id, 0, false, whole, ttl, body⟩ : Pk) (⟨osrc, odst, oproto, oid, ooff, omore, owhole, ottl, obody⟩ : Pk) mk idn rfl rfl Hl1.out Hl2.out Hni.out.1
    have hc := ipCut_any (.slice A body.length cap) (⟨src, dst, proto, id, 0, false, whole, ttl, body⟩ : Pk) (28 + (mk : Int)) w2 Hbp2.out (by omega) (by omega)
    rw [h1] at hc
    exact ⟨l, I, h1, h2, h3, h4, h5, hc⟩)
  clear hwm hni
  go_upto_region 11 with (first
    | (go_at_call 19; refine HW.out.mono ?_; rintro e wq ⟨mk, hmk, rfl, rfl⟩; have hmw := Hwm.out mk hmk; obtain ⟨l, I, hl1, hl2, hl3, hl4, hl5, hl6⟩ := HC.out mk hmk; have Hl := hid (And.intro hl1 (And.intro hl4 hl5)); have Hcut := hid hl6; clear hl1 hl4 hl5 hl6)
    | ((with_reducible show wpList _ _ _ (Oper.mk (some 38) _ _ _ _ _ :: _) _ _); refine wpList_loadBlk rfl _ _ rfl _ rfl _ _ _ HP2.out Try.underlying25 pkinfo ?_)
    | (go_at_call 11; refine Hcut.out.mono ?_; rintro e w3 ⟨v3, rfl, hown3, hb3⟩; obtain ⟨g3, cap3, vs3, rfl, hcap3, _⟩ := pkl_open hown3 rfl hl2; have Hown3 := hid hown3; have Hb3 := hid hb3; clear hown3 hb3)
    | (go_at_call 20; refine (pnew_any _).mono ?_; rintro e w4 ⟨g, F0, rfl, hinv, hb4⟩; have Hinv := hid hinv; have Hb4 := hid hb4; clear hinv hb4)
    | fail)
  have HP4 := hid ((HP2.out.keep Hb3.out).keep Hb4.out)
  have HO4 := hid ((HO2.out.keep Hb3.out).keep Hb4.out)
  have i3 : w4.cell? ⟨w.heap.size, 3, none⟩ = some (.int .i64 id) := HP4.out.cell 3
  have j3 : w4.cell? ⟨w.heap.size + 1, 3, none⟩ = some (.int .i64 oid) := HO4.out.cell 3
  have j4 : w4.cell? ⟨w.heap.size + 1, 4, none⟩ = some (.int .i64 ooff) := HO4.out.cell 4
  have j5 : w4.cell? ⟨w.heap.size + 1, 5, none⟩ = some (.bool omore) := HO4.out.cell 5
  have y3 := HO4.out.frozen 3
  have y4 := HO4.out.frozen 4
  have y5 := HO4.out.frozen 5
  have hg5 := grown_trans (grown_trans (grown_set w4 (w.heap.size + 1) 3 (.int .i64 idn)) (grown_set _ (w.heap.size + 1) 5 (.bool true))) (grown_set _ (w.heap.size + 1) 4 (.int .i64 8))
  have HO5 := hid (((HO4.out.set_ 3 (.int .i64 idn)).set_ 5 (.bool true)).set_ 4 (.int .i64 8))
  have HP5 := hid (HP4.out.grown hg5 (fun e => by injection e with e; omega))
  have HB4 := hid ((HB2.out.trans (Hb3.out.mono HB2.out.size)).trans (Hb4.out.mono (Nat.le_trans HB2.out.size Hb3.out.size)))
  have HB5 := hid (show Below w.heap.size w _ from below_own HB4.out hg5 (by omega) HB4.out.size)
  have Hg5 := hid hg5
  clear hg5
  go_upto_region 13 with fail
  generalize ((w4.setCell ⟨w.heap.size + 1, 3, none⟩ (.int .i64 idn)).setCell ⟨w.heap.size + 1, 5, none⟩ (.bool true)).setCell ⟨w.heap.size + 1, 4, none⟩ (.int .i64 8) = w5 at *
  have o8 : w5.cell? ⟨w.heap.size + 1, 8, none⟩ = some (.slice oA obody.length ocap) := HO5.out.cell 8
  clear i3 j3 j4 j5 y3 y4 y5 hidn
  obtain ⟨m8, hm8⟩ : ∃ m, obody.length / 8 * 8 = m := ⟨_, rfl⟩
  have Hm8 := hid hm8
  obtain ⟨d8, hd8⟩ : ∃ d, obody.length / 8 = d := ⟨_, rfl⟩
  have hq8 : IntKind.i64.wrap ((obody.length : Int).tdiv 8) = (d8 : Int) := by rw [Int.tdiv_eq_ediv_of_nonneg (by omega), IntWalk.i64_in _ (by have := Hl2.out; omega)]; omega
  have hr8 : IntKind.i64.wrap ((d8 : Int) * 8) = (m8 : Int) := by rw [IntWalk.i64_in _ (by have := Hl2.out; omega)]; omega
  have hq9 : (obody.length : Int).tdiv 8 = (d8 : Int) := by rw [Int.tdiv_eq_ediv_of_nonneg (by omega)]; omega
  have hr9 : (d8 : Int) * 8 = (m8 : Int) := by omega
  have hcut : ∀ wx, (Instr.sliceAt 23 (.slice oA obody.length ocap) none (some (.int .i64 (m8 : Int))) (some (.int .i64 (m8 : Int)))).run Try.prog wx = .ok (.slice oA m8 m8) wx := fun wx => by
    obtain ⟨_, ⟨i, hi, _, hs, _⟩, _⟩ := u8ok
    exact run_cut_max (P := Try.prog) (T := 23) Try.underlying23 hi oA obody.length ocap .i64 .i64 (m8 : Int) m8 rfl (by omega) wx
  clear hm8 hd8
  have hrow8 : RowN w 1 (.slice oA m8 m8) m8 ((obody.take m8).map u8v) := by
    obtain ⟨_, A', cap', hv, _, _, h3⟩ := Ho.out
    injection hv with e1 _ e3
    subst e1; subst e3
    have := Hm8.out
    have := Hl2.out
    refine ⟨by simp; omega, oA, m8, rfl, Nat.le_refl _, by simp only [maxLen]; omega, ?_⟩
    rcases h3 with h3 | ⟨b, offb, hA, hc⟩
    · left; omega
    · refine .inr ⟨b, offb, hA, fun i x hx => hc i x ?_⟩
      rw [List.map_take] at hx
      have hi := (List.getElem?_eq_some_iff.1 hx).1
      simp at hi
      rw [List.getElem?_take_of_lt (by omega)] at hx
      exact hx
  have hlit8 := below_alloc w5 (.cells #[.int .u8 1, .int .u8 2, .int .u8 3, .int .u8 4, .int .u8 5, .int .u8 6, .int .u8 7, .int .u8 8] 5)
  have Hrow8 := hid ((hrow8.below HB5.out).below hlit8)
  have HO6 := hid (HO5.out.keep hlit8)
  have HP6 := hid (HP5.out.keep hlit8)
  have Hlit8 := hid hlit8
  have o8b : (w5.alloc (.cells #[.int .u8 1, .int .u8 2, .int .u8 3, .int .u8 4, .int .u8 5, .int .u8 6, .int .u8 7, .int .u8 8] 5)).cell? ⟨w.heap.size + 1, 8, none⟩ = some (.slice oA obody.length ocap) := HO6.out.cell 8
  have hm8s : m8 ≤ 4000 := by have := Hm8.out; have := Hl2.out; omega
  have hll : (l.length : Int) = (l.length : Int) := rfl
  have hmkB := run_makeB .i64 .i64 (l.length : Int) l.length rfl (by omega)
  clear hrow8 hlit8 hll
  go_upto_region 14 with (first
    | ((with_reducible show wpList _ _ _ (Oper.mk (some 70) _ _ _ _ _ :: _) _ _); refine wpList_app_full rfl _ _ 23 rfl w.heap.size 5 (.int .u8 0) 1 1 u8ok oA m8 ((obody.take m8).map u8v) rfl Hrow8.out (.slice (some ⟨w5.heap.size, 0, none⟩) 8 8) 8 [.int .u8 1, .int .u8 2, .int .u8 3, .int .u8 4, .int .u8 5, .int .u8 6, .int .u8 7, .int .u8 8] rfl (rowS_lit 1 #[.int .u8 1, .int .u8 2, .int .u8 3, .int .u8 4, .int .u8 5, .int .u8 6, .int .u8 7, .int .u8 8] 8 _ rfl rfl (by simp [maxLen])) (by decide) (by omega) (by simp only [maxLen]; omega) (by have := HB5.out.size; simp; omega) ?_; intro v6 w6 hr6 hg6 hv6; obtain ⟨_, A6, cap6, rfl, hq1, _, _⟩ := hr6.rowN; have ho6 := HO6.out.grown hg6 (by simp); have c8 : w6.cell? ⟨w.heap.size + 1, 8, none⟩ = some (.slice oA obody.length ocap) := ho6.cell 8; have z8 := ho6.frozen 8; have HO7 := hid ho6; have HP7 := hid (HP6.out.grown hg6 (by simp)); have Hr6 := hid hr6; have Hg6 := hid hg6; have Hv6 := hid hv6; clear hr6 hg6 hv6 ho6)
    | fail)
  have hgs7 := grown_set w6 (w.heap.size + 1) 8 (.slice A6 (m8 + 8) cap6)
  have hv6k : ∀ k, (Value.slice A6 (m8 + 8) cap6).ownBlock = some k → k = w5.heap.size + 1 := fun k hk => by rw [Hv6.out] at hk; injection hk with hk; simp at hk; omega
  have hs5 : w2.heap.size ≤ w3.heap.size ∧ w3.heap.size ≤ w4.heap.size ∧ w4.heap.size ≤ w5.heap.size := ⟨Hb3.out.size, Hb4.out.size, Hg5.out.size⟩
  have hs6 : w5.heap.size + 1 < w6.heap.size := by have := (Hr6.out.lt Hv6.out).2; simpa using this
  have HO8 := hid (show Blk (w6.setCell ⟨w.heap.size + 1, 8, none⟩ (.slice A6 (m8 + 8) cap6)) (w.heap.size + 1) 25 (pkCells (othPk (⟨osrc, odst, oproto, oid, ooff, omore, owhole, ottl, obody⟩ : Pk) idn) (.slice A6 (m8 + 8) cap6)) from HO7.out.set_ 8 _)
  have HP8 := hid (show Blk (w6.setCell ⟨w.heap.size + 1, 8, none⟩ (.slice A6 (m8 + 8) cap6)) w.heap.size 25 (pkCells (⟨src, dst, proto, id, 0, false, whole, ttl, body⟩ : Pk) (.slice A body.length cap)) from HP7.out.far (by simp) _)
  have HR8 := hid (show RowAtS (w6.setCell ⟨w.heap.size + 1, 8, none⟩ (.slice A6 (m8 + 8) cap6)) w.heap.size 5 1 (.slice A6 (m8 + 8) cap6) (m8 + 8) ((othPk (⟨osrc, odst, oproto, oid, ooff, omore, owhole, ottl, obody⟩ : Pk) idn).body.map u8v) from by
    have e1 : (othPk (⟨osrc, odst, oproto, oid, ooff, omore, owhole, ottl, obody⟩ : Pk) idn).body.map u8v = (obody.take m8).map u8v ++ [.int .u8 1, .int .u8 2, .int .u8 3, .int .u8 4, .int .u8 5, .int .u8 6, .int .u8 7, .int .u8 8] := by
      simp only [othPk, Hm8.out, List.map_append]
      rfl
    rw [e1]
    refine Hr6.out.same fun k hk => hgs7.block k (Hr6.out.lt hk).2 (fun e => ?_)
    injection e with e
    have := hv6k k hk
    have := Hs2.out
    omega)
  have F6 : Frame (fun k => k = w.heap.size + 1) w4 (w6.setCell ⟨w.heap.size + 1, 8, none⟩ (.slice A6 (m8 + 8) cap6)) :=
    (((frame_one Hg5.out).trans (Below.frameF Hlit8.out _) (fun _ _ h => h)).trans (frame_grown Hg6.out (fun k hk => by cases hk)) (fun _ _ h => h)).trans (frame_one hgs7) (fun _ _ h => h)
  have F7 := hid ((Below.frameF Hb4.out (fun k => k < w2.heap.size ∨ w3.heap.size ≤ k)).trans F6 (fun k _ h => .inl (by have := Hs2.out; omega)))
  have I7 := hid (Hinv.out.frame F6 (fun k hk e => by have := (Hinv.out.lt k hk).1; have := Hs2.out; omega))
  have B7 := hid (show Below w.heap.size w (w6.setCell ⟨w.heap.size + 1, 8, none⟩ (.slice A6 (m8 + 8) cap6)) from Frame.below ((Below.frameF HB4.out (fun k => k = w.heap.size + 1)).trans F6 (fun _ _ h => h)) (fun k hk => by omega) (Nat.le_refl _))
  have HF0 := hid (fun k (hk : F0 k) => Hinv.out.lt k hk)
  have V6 := hid hv6k
  have S6 := hid hs6
  have S5 := hid hs5
  have S7 := hid hgs7.size
  clear hgs7 hv6k hs5 hs6 F6 c8 z8 o8 o8b hcut hq8 hr8 hq9 hr9
  generalize w6.setCell ⟨w.heap.size + 1, 8, none⟩ (.slice A6 (m8 + 8) cap6) = w7 at *
  go_wp2_with fail
  obtain ⟨hl0, hl4, hplan⟩ := Hl.out
  have Hplan := hid hplan
  have Hl4 := hid hl4
  have Hoth := hid (show m8 + 8 = ((othPk (⟨osrc, odst, oproto, oid, ooff, omore, owhole, ottl, obody⟩ : Pk) idn).body.map u8v).length by rw [List.length_map, oth_len]; have := Hm8.out; simp only; omega)
  have hr8b := HR8.out
  rw [Hoth.out] at hr8b
  have hal := below_alloc w7 (.cells (falses l.length) 4)
  have hblkS := Blk.new w7 4 (falses l.length)
  have LP0 := hid (show Lp w w3 (w7.alloc (.cells (falses l.length) 4)) g w7.heap.size (w5.heap.size + 1) w2.heap.size (pkCells (⟨src, dst, proto, id, 0, false, whole, ttl, body⟩ : Pk) (.slice A body.length cap)) (pkCells (othPk (⟨osrc, odst, oproto, oid, ooff, omore, owhole, ottl, obody⟩ : Pk) idn) (.slice A6 (m8 + 8) cap6)) ((othPk (⟨osrc, odst, oproto, oid, ooff, omore, owhole, ottl, obody⟩ : Pk) idn).body.map u8v) (.slice A6 (m8 + 8) cap6) l.length [] [] 0 F0 from by
    have s5 := S5.out
    have s6 := S6.out
    have s7 := S7.out
    have s2 := Hs2.out
    refine ⟨I7.out.keep hal, fun q => by have := HF0.out _ q; omega, fun q => by have := HF0.out _ q; omega, HP8.out.keep hal, HO8.out.keep hal, ?_, V6.out, ?_, F7.out.trans (Below.frameF hal _) (fun _ _ h => h), B7.out.alloc B7.out.size _, by omega, by simp; omega⟩
    · have := hr8b.keep hal
      rw [Hoth.out]
      exact this
    · rw [flags_nil]; exact hblkS)
  have HT := hid (show Hid (l.length = l.length) from hid rfl)
  have hn0 : 0 < l.length := hl2
  have hn4 : l.length ≤ 4000 := hl3
  have hl3s : l.length ≤ cap3 := hcap3
  have hs30 := hid (show w2.heap.size ≤ w3.heap.size ∧ w5.heap.size + 1 ≠ w7.heap.size from by have := S5.out; have := S6.out; have := S7.out; omega)
  clear hr8b hal hblkS HB0 HP0 HO0 HP1 HO1 HP2 HO2 HP4 HO4 HP5 HO5 HB4 HB5 HP6 HO6 HP7 HO7 HP8 HO8 HR8 F7 I7 B7 V6 S5 S6 S7 Hr6 Hg6 Hv6 Hlit8 Hrow8 Hg5 Hb1 Hs1 Hs2 HB2 Hinv Hb4 HC HW Hwm Hbp2 Hcut hmkB Ho HF0
  generalize hgs : w7.heap.size = gs at *
  generalize hbx : w5.heap.size + 1 = bx at *
  generalize hob : (othPk (⟨osrc, odst, oproto, oid, ooff, omore, owhole, ottl, obody⟩ : Pk) idn).body.map u8v = ob at *
  go_loopg [12, 14] (100 + l.length) (fun gk s12 s14 wr => ∃ (i : Nat) (js : List Nat) (st : List Wt) (F : Nat → Prop), i ≤ 100 + l.length ∧ 100 + l.length - i ≤ gk ∧ (∃ lf : Nat, s12 = .int .i64 (lf : Int) ∧ lf + js.length = l.length) ∧ s14 = .int .i64 (i : Int) ∧ I i js st ∧ Hid (∀ j, 100 ≤ j → j < i → j % l.length ∈ js) ∧
    Lp w w3 wr g gs bx w2.heap.size (pkCells (⟨src, dst, proto, id, 0, false, whole, ttl, body⟩ : Pk) (.slice A body.length cap)) (pkCells (othPk (⟨osrc, odst, oproto, oid, ooff, omore, owhole, ottl, obody⟩ : Pk) idn) (.slice A6 (m8 + 8) cap6)) ob (.slice A6 (m8 + 8) cap6) l.length js st (2 * i) F)
  case atStart => exact ⟨0, [], [], F0, by omega, by omega, ⟨l.length, rfl, rfl⟩, rfl, Hplan.out.start, hid fun j _ h => absurd h (Nat.not_lt_zero _), LP0.out⟩
  case round =>
    obtain ⟨i, js, st, F, hi, hgk, ⟨lf, rfl, hlf⟩, rfl, hI, hres, hlp⟩ := hrel
    obtain ⟨hnd, hjl, hjn⟩ := Hplan.out.nodup i js st hI
    have hi2 : i < 100 + l.length := by
      refine Classical.byContradiction fun hc => ?_
      obtain ⟨r, hr, hrn⟩ := lack_of l.length js hjn hnd hjl
      obtain ⟨j, hj1, hj2, hj3⟩ := residue l.length r hr
      exact hrn (hj3 ▸ hres.out j hj1 (by omega))
    obtain ⟨lf, rfl⟩ : ∃ m, lf = m + 1 := ⟨lf - 1, by omega⟩
    have hlfI : ((lf : Int) + 1) > 0 := by omega
    have hlfJ : (0 : Int) < (lf : Int) + 1 := by omega
    have HI := hid hI
    have Hnd := hid (And.intro hnd hjl)
    have LPr := hid hlp
    have hj1 : IntKind.i64.wrap ((i : Int) + 1) = ((i + 1 : Nat) : Int) := by rw [IntWalk.i64_in _ (by omega)]; omega
    clear hI hnd hjl hlp
    go_upto_region 20 with fail
    clear hlfI hlfJ
    go_cut [89] from 82 to 89 (fun s89 wx => wx = wr ∧ ((s89 = .bool true ∧ i < order.length ∧ i < 100) ∨ (s89 = .bool false ∧ ¬ (i < order.length ∧ i < 100))))
    case first =>
      by_cases ha : i < order.length
      · have haI : (i : Int) < (order.length : Int) := by omega
        by_cases hb : i < 100
        · have hbI : (i : Int) < 100 := by omega
          have Hab := hid (And.intro ha hb)
          clear ha hb
          go_wp2_with fail
          go_meet
          case rel => exact ⟨rfl, .inl ⟨rfl, Hab.out⟩⟩
        · have hbI : ¬ (i : Int) < 100 := by omega
          have Hab := hid (show ¬ (i < order.length ∧ i < 100) by omega)
          clear ha hb
          go_wp2_with fail
          go_meet
          case rel => exact ⟨rfl, .inr ⟨rfl, Hab.out⟩⟩
      · have haI : ¬ (i : Int) < (order.length : Int) := by omega
        have Hab := hid (show ¬ (i < order.length ∧ i < 100) by omega)
        clear ha
        go_wp2_with fail
        go_meet
        case rel => exact ⟨rfl, .inr ⟨rfl, Hab.out⟩⟩
    case rest =>
    obtain ⟨rfl, hs89⟩ := hcut
    obtain ⟨b89, rfl, hb89⟩ : ∃ b : Bool, _ = Value.bool b ∧ (b = true ∧ i < order.length ∧ i < 100 ∨ b = false ∧ ¬ (i < order.length ∧ i < 100)) := by
      rcases hs89 with ⟨h1, h2⟩ | ⟨h1, h2⟩
      · exact ⟨true, h1, .inl ⟨rfl, h2⟩⟩
      · exact ⟨false, h1, .inr ⟨rfl, h2⟩⟩
    have Hb89 := hid hb89
    clear hs89 hb89
    go_step
    go_cut [15] from 89 to 93 (fun s15 wx => wx = wc ∧ ∃ kz : Int, s15 = .int .i64 kz ∧ (100 ≤ i → kz = (i : Int)))
    case first =>
      rcases Hb89.out with ⟨rfl, hio, hi100⟩ | ⟨rfl, hno⟩
      · have haI : (i : Int) < (order.length : Int) := by omega
        obtain ⟨gA, oA2, rfl, hcell⟩ : ∃ gA oA, rA = some ⟨gA, oA, none⟩ ∧ wc.cell? ⟨gA, oA + i, none⟩ = some (.int .i64 order[i]) := by
          obtain ⟨_, A', cap', hv, _, _, hc⟩ := Hor.out.below LPr.out.bel
          injection hv with e1 _ e3
          subst e1; subst e3
          rcases hc with h0 | ⟨gA, oA, rfl, hc⟩
          · omega
          · exact ⟨gA, oA, rfl, hc i _ (by simp [hio])⟩
        generalize order[i] = zv at hcell
        have Hi1 := hid (show ¬ 100 ≤ i by omega)
        clear hio hi100
        go_wp2_with fail
        go_meet
        case rel => exact ⟨rfl, zv, rfl, fun h => absurd h Hi1.out⟩
      · clear hno
        go_wp2_with fail
        go_meet
        case rel => exact ⟨rfl, (i : Int), rfl, fun _ => rfl⟩
    case rest =>
    obtain ⟨rfl, kz, rfl, hkz⟩ := hcut
    have Hkz := hid hkz
    have HWf := hid (within_full kz l.length wc hn0 (by omega))
    clear hkz
    go_upto_if 99 with (first
      | (go_at_call 19; refine HWf.out.mono ?_; rintro e wq ⟨kk, hkk, rfl, rfl, hkx⟩; have Hkx := hid hkx; clear hkx)
      | fail)
    have hokey : (othPk (⟨osrc, odst, oproto, oid, ooff, omore, owhole, ottl, obody⟩ : Pk) idn).key.Ok := ⟨Hok.out.src, Hok.out.dst, Hok.out.plo, Hok.out.phi, Hni.out.2.1, Hni.out.2.2⟩
    have HA := hid (fun (h1 : i = 1) => by
      have hbs : Bs wc (.slice A6 (m8 + 8) cap6) (othPk (⟨osrc, odst, oproto, oid, ooff, omore, owhole, ottl, obody⟩ : Pk) idn).body := by
        have := LPr.out.r.rowN
        rw [← hob, List.length_map] at this
        exact this
      have hlen := oth_len (⟨osrc, odst, oproto, oid, ooff, omore, owhole, ottl, obody⟩ : Pk) idn
      simp only at hlen
      have := add_any w3.heap.size g st (2 * i) F (.slice A6 (m8 + 8) cap6) (othPk (⟨osrc, odst, oproto, oid, ooff, omore, owhole, ottl, obody⟩ : Pk) idn) wc LPr.out.inv (by omega) hbs (by have := Hl2.out; omega) hokey
      dsimp only [pkCells, othPk] at this
      exact this)
    have HOc := LPr.out.o
    dsimp only [pkCells, othPk] at HOc
    have HOc := hid HOc
    clear hokey
    go_cut [] from 99 to 102 (fun wx => ∃ F1, Lp w w3 wx g gs bx w2.heap.size (pkCells (⟨src, dst, proto, id, 0, false, whole, ttl, body⟩ : Pk) (.slice A body.length cap)) (pkCells (othPk (⟨osrc, odst, oproto, oid, ooff, omore, owhole, ottl, obody⟩ : Pk) idn) (.slice A6 (m8 + 8) cap6)) ob (.slice A6 (m8 + 8) cap6) l.length js (withO i st (othPk (⟨osrc, odst, oproto, oid, ooff, omore, owhole, ottl, obody⟩ : Pk) idn)) (2 * i + 1) F1)
    case first =>
      by_cases h1 : i = 1
      · have h1b : ((i : Int) == 1) = true := by simp; omega
        have HA1 := hid (HA.out h1)
        have HWO := hid (show withO i st (othPk (⟨osrc, odst, oproto, oid, ooff, omore, owhole, ottl, obody⟩ : Pk) idn) = (pAdd st (othPk (⟨osrc, odst, oproto, oid, ooff, omore, owhole, ottl, obody⟩ : Pk) idn)).1 by unfold withO; rw [if_pos h1])
        clear h1
        go_wp2_with (first
          | ((with_reducible show wpList _ _ _ (Oper.mk (some 101) _ _ _ _ _ :: _) _ _); refine wpList_loadBlk rfl _ _ rfl _ rfl _ _ _ HOc.out Try.underlying25 pkinfo ?_)
          | (go_at_call 21; refine HA1.out.mono ?_; rintro e w9 ⟨v9, rfl, hown, F9, hinv9, hfr9, hF9⟩; have HLP := hid (LPr.out.add hinv9 hfr9 hF9); clear hown hinv9 hfr9 hF9)
          | fail)
        go_meet
        case rel =>
          refine ⟨F9, ?_⟩
          rw [HWO.out]
          exact HLP.out
      · have h1b : ((i : Int) == 1) = false := by simp; omega
        have h1c : ¬ (i : Int) = 1 := by omega
        have HWO := hid (show withO i st (othPk (⟨osrc, odst, oproto, oid, ooff, omore, owhole, ottl, obody⟩ : Pk) idn) = st by unfold withO; rw [if_neg h1])
        clear h1
        go_wp2_with fail
        go_meet
        case rel =>
          refine ⟨F, ?_⟩
          rw [HWO.out]
          have l0 := LPr.out
          exact l0.add (l0.inv.mono (Nat.le_refl _) (Nat.le_succ _)) (Frame.refl _ _) (fun k hk => .inl hk)
    case rest =>
    obtain ⟨F1, hlp1⟩ := hcut
    obtain ⟨_, _, vs, e3, _, hvs, hg3a, hg3b, hat⟩ := pkl_open Hown3.out rfl hn0
    injection e3 with e31 _ e33
    injection e31 with e31
    injection e31 with e31 _ _
    subst e31; subst e33
    obtain ⟨q30, r30⟩ := hat kk hkk (by omega)
    have hmem : l[kk] ∈ l := List.getElem_mem hkk
    have hkey4 := Hl4.out _ hmem
    have PA := Hplan.out.again i js st kk hkk HI.out
    have PF := Hplan.out.fresh i js st kk hkk HI.out
    have PL := Hplan.out.last i js st kk hkk HI.out
    generalize l[kk] = P at q30 r30 hkey4 PA PF PL
    generalize vs[kk] = u3 at q30 r30
    obtain ⟨s1, d1, pr1, id1, of1, mo1, wh1, tt1, bd1⟩ := P
    obtain ⟨U1, cu1, rfl⟩ := slice_len q30.bs rfl
    have HCL := hid (show ∀ wx, Frame (fun k => k < w2.heap.size ∨ w3.heap.size ≤ k) w3 wx → Bs wx (.slice U1 bd1.length cu1) bd1 ∧ ∀ j u, (pkCells ⟨s1, d1, pr1, id1, of1, mo1, wh1, tt1, bd1⟩ (.slice U1 bd1.length cu1))[j]? = some u → wx.cell? ⟨g3, kk * 9 + j, none⟩ = some u from fun wx hf => by
      refine ⟨(show OwnBs wx w2.heap.size 5 (.slice U1 bd1.length cu1) bd1 from hf.own q30 (fun k hk q => by have := own_at q30 hk; omega)).bs, fun j u hu => ?_⟩
      have e := hf.block g3 hg3b (by omega)
      have := r30 j u hu
      simpa [World.cell?, e] using this)
    obtain ⟨q3, r3⟩ := HCL.out wc hlp1.mid
    have HQ := hid q3
    have x30 : wc.cell? ⟨g3, kk * 9, none⟩ = some (.int .u32 (s1 : Int)) := r3 0 _ rfl
    have x31 : wc.cell? ⟨g3, kk * 9 + 1, none⟩ = some (.int .u32 (d1 : Int)) := r3 1 _ rfl
    have x32 : wc.cell? ⟨g3, kk * 9 + 2, none⟩ = some (.int .i64 pr1) := r3 2 _ rfl
    have x33 : wc.cell? ⟨g3, kk * 9 + 3, none⟩ = some (.int .i64 id1) := r3 3 _ rfl
    have x34 : wc.cell? ⟨g3, kk * 9 + 4, none⟩ = some (.int .i64 of1) := r3 4 _ rfl
    have x35 : wc.cell? ⟨g3, kk * 9 + 5, none⟩ = some (.bool mo1) := r3 5 _ rfl
    have x36 : wc.cell? ⟨g3, kk * 9 + 6, none⟩ = some (.bool wh1) := r3 6 _ rfl
    have x37 : wc.cell? ⟨g3, kk * 9 + 7, none⟩ = some (.int .i64 tt1) := r3 7 _ rfl
    have x38 : wc.cell? ⟨g3, kk * 9 + 8, none⟩ = some (.slice U1 bd1.length cu1) := r3 8 _ rfl
    have hkeyP : (Pk.key ⟨s1, d1, pr1, id1, of1, mo1, wh1, tt1, bd1⟩).Ok := by rw [hkey4.1]; exact ⟨Hpk.out.src, Hpk.out.dst, Hpk.out.plo, Hpk.out.phi, Hpk.out.ilo, Hpk.out.ihi⟩
    have HADD := hid (fun (wx : World) (stx : List Wt) (mx : Nat) (Fx : Nat → Prop) (hinv : PtInv wx w3.heap.size g stx mx Fx) (hmx : mx < 90000) (hbx : Bs wx (.slice U1 bd1.length cu1) bd1) => by
      have := add_any w3.heap.size g stx mx Fx (.slice U1 bd1.length cu1) ⟨s1, d1, pr1, id1, of1, mo1, wh1, tt1, bd1⟩ wx hinv hmx hbx (by have := hkey4.2; simp only at this ⊢; omega) hkeyP
      dsimp only [pkCells] at this
      exact this)
    have HKk := hid hkey4
    have LP1 := hid hlp1
    have Hres2 := hid (fun (h : 100 ≤ i) => show kk = i % l.length from Hkx.out i (Hkz.out h))
    have hgsk : kk < l.length := hkk
    clear hat q30 r30 hg3a hg3b hmem hkey4 hkeyP q3 r3 hlp1 HA HOc hvs
    by_cases hkj : kk ∈ js
    · obtain ⟨st2, e2, hI2⟩ := PA hkj
      have HS := hid (LP1.out.f.cell kk)
      have hA1 := HADD.out wc _ _ _ LP1.out.inv (by omega) HQ.out
      unfold AddPost at hA1
      rw [e2] at hA1
      have HA1 := hid hA1
      have HI2 := hid hI2
      have Hkj := hid hkj
      clear PA PF PL e2 hA1 hI2 hkj
      go_wp2_with (first
        | (go_at_call 21; refine HA1.out.mono ?_; rintro e w9 ⟨v9, rfl, hown, F9, hinv9, hfr9, hF9⟩; obtain ⟨A9, c9, rfl⟩ := slice_len hown.bs (show pkZero.body.length = 0 from rfl); dsimp only [pkCells, pkZero]; have hl9 := LP1.out.add hinv9 hfr9 hF9; have sc := (hl9.f.alloc (.cells #[.int .u32 0, .int .u32 0, .int .i64 0, .int .i64 0, .int .i64 0, .bool false, .bool false, .int .i64 0, .slice A9 0 c9] 25)).cell kk; rw [flags_at _ _ _ hgsk, decide_eq_true Hkj.out] at sc; have HL9 := hid (hl9.keep (below_alloc w9 (.cells #[.int .u32 0, .int .u32 0, .int .i64 0, .int .i64 0, .int .i64 0, .bool false, .bool false, .int .i64 0, .slice A9 0 c9] 25))); clear hown hinv9 hfr9 hF9 hl9)
        | fail)
      go_roundg (100 + l.length - (i + 1))
      case measure => omega
      case rel => exact ⟨i + 1, js, st2, F9, by omega, Nat.le_refl _, ⟨lf + 1, rfl, hlf⟩, rfl, HI2.out, hid (fun j h1 h2 => by
        by_cases e : j = i
        · subst e; rw [← Hres2.out h1]; exact Hkj.out
        · exact hres.out j h1 (by omega)), by have := HL9.out; rw [show 2 * (i + 1) = 2 * i + 1 + 1 by omega]; exact this⟩
    · have hA1 := HADD.out wc _ _ _ LP1.out.inv (by omega) HQ.out
      unfold AddPost at hA1
      have Hkj := hid hkj
      have hwlf : IntKind.i64.wrap ((lf : Int) + 1 - 1) = (lf : Int) := by rw [IntWalk.i64_in _ (by omega)]; omega
      by_cases hlast : js.length + 1 = l.length
      case neg =>
        obtain ⟨st2, e2, hI2⟩ := PF hkj (by omega)
        rw [e2] at hA1
        have HA1 := hid hA1
        have HI2 := hid hI2
        have hlf1 : (lf : Int) > 0 := by omega
        have hlf2 : (0 : Int) < (lf : Int) := by omega
        have hlf3 : 0 < lf := by omega
        clear PA PF PL e2 hA1 hI2 hkj hlast
        go_wp2_with (first
          | (go_at_call 21; refine HA1.out.mono ?_; rintro e w9 ⟨v9, rfl, hown, F9, hinv9, hfr9, hF9⟩; obtain ⟨A9, c9, rfl⟩ := slice_len hown.bs (show pkZero.body.length = 0 from rfl); dsimp only [pkCells, pkZero]; have hl9 := (LP1.out.add hinv9 hfr9 hF9).keep (below_alloc w9 (.cells #[.int .u32 0, .int .u32 0, .int .i64 0, .int .i64 0, .int .i64 0, .bool false, .bool false, .int .i64 0, .slice A9 0 c9] 25)); have sc := hl9.f.cell kk; rw [flags_at _ _ _ hgsk, decide_eq_false Hkj.out] at sc; have zc := hl9.f.frozen kk; have ac8 : ((w9.alloc (.cells #[.int .u32 0, .int .u32 0, .int .i64 0, .int .i64 0, .int .i64 0, .bool false, .bool false, .int .i64 0, .slice A9 0 c9] 25)).setCell ⟨gs, kk, none⟩ (.bool true)).cell? ⟨w9.heap.size, 8, none⟩ = some (.slice A9 0 c9) := ((Blk.new w9 25 #[.int .u32 0, .int .u32 0, .int .i64 0, .int .i64 0, .int .i64 0, .bool false, .bool false, .int .i64 0, .slice A9 0 c9]).far (show w9.heap.size ≠ gs from fun e => by have h1 := (LP1.out.add hinv9 hfr9 hF9).hi; omega) _).cell 8; have HL9 := hid (hl9.flag hs30.out.2 kk); clear hown hinv9 hfr9 hF9 hl9)
          | fail)
        go_roundg (100 + l.length - (i + 1))
        case measure => omega
        case rel => exact ⟨i + 1, js ++ [kk], st2, F9, by omega, Nat.le_refl _, ⟨lf, rfl, by rw [List.length_append]; simp; omega⟩, rfl, HI2.out, hid (fun j h1 h2 => by
          by_cases e : j = i
          · subst e; rw [← Hres2.out h1]; simp
          · exact List.mem_append.2 (.inl (hres.out j h1 (by omega)))), by have := HL9.out; rw [show 2 * (i + 1) = 2 * i + 1 + 1 by omega]; exact this⟩
      case pos =>
        obtain ⟨st2, e2, e3⟩ := PL hkj hlast
        rw [e2] at hA1
        have HA1 := hid hA1
        have HE3 := hid e3
        obtain rfl : lf = 0 := by omega
        clear PA PF PL e2 e3 hA1 hkj hlast hwlf
        go_upto_region 34 with (first
          | (go_at_call 21; refine HA1.out.mono ?_; rintro e w9 ⟨v9, rfl, hown, F9, hinv9, hfr9, hF9⟩; obtain ⟨A9, c9, rfl⟩ := slice_len hown.bs rfl; dsimp only [pkCells, wholePk]; have hl9 := (LP1.out.add hinv9 hfr9 hF9).keep (below_alloc w9 (.cells #[.int .u32 (src : Int), .int .u32 (dst : Int), .int .i64 proto, .int .i64 id, .int .i64 0, .bool false, .bool true, .int .i64 ttl, .slice A9 body.length c9] 25)); have sc := hl9.f.cell kk; rw [flags_at _ _ _ hgsk, decide_eq_false Hkj.out] at sc; have zc := hl9.f.frozen kk; have HAB := hid ((Blk.new w9 25 #[.int .u32 (src : Int), .int .u32 (dst : Int), .int .i64 proto, .int .i64 id, .int .i64 0, .bool false, .bool true, .int .i64 ttl, .slice A9 body.length c9]).far (show w9.heap.size ≠ gs from fun e => by have h1 := (LP1.out.add hinv9 hfr9 hF9).hi; omega) (.bool true) (p := ⟨gs, kk, none⟩)); have HL9 := hid (hl9.flag hs30.out.2 kk); have HOw := hid (ownBs_store2 (hown.alloc (.cells #[.int .u32 (src : Int), .int .u32 (dst : Int), .int .i64 proto, .int .i64 id, .int .i64 0, .bool false, .bool true, .int .i64 ttl, .slice A9 body.length c9] 25)) (grown_set (w9.alloc (.cells #[.int .u32 (src : Int), .int .u32 (dst : Int), .int .i64 proto, .int .i64 id, .int .i64 0, .bool false, .bool true, .int .i64 ttl, .slice A9 body.length c9] 25)) gs kk (.bool true)) (fun e => by have h1 := (own_at hown e).1; have h2 := LP1.out.hi; omega)); clear hown hinv9 hfr9 hF9 hl9)
          | fail)
        generalize hWf : (w9.alloc (.cells #[.int .u32 (src : Int), .int .u32 (dst : Int), .int .i64 proto, .int .i64 id, .int .i64 0, .bool false, .bool true, .int .i64 ttl, .slice A9 body.length c9] 25)).setCell ⟨gs, kk, none⟩ (.bool true) = wf at *
        obtain ⟨ga, hga⟩ : ∃ ga, w9.heap.size = ga := ⟨_, rfl⟩
        rw [hga] at HAB ⊢
        have a0 : wf.cell? ⟨ga, 0, none⟩ = some (.int .u32 (src : Int)) := HAB.out.cell 0
        have a1 : wf.cell? ⟨ga, 1, none⟩ = some (.int .u32 (dst : Int)) := HAB.out.cell 1
        have a2 : wf.cell? ⟨ga, 2, none⟩ = some (.int .i64 proto) := HAB.out.cell 2
        have a3 : wf.cell? ⟨ga, 3, none⟩ = some (.int .i64 id) := HAB.out.cell 3
        have a4 : wf.cell? ⟨ga, 4, none⟩ = some (.int .i64 0) := HAB.out.cell 4
        have a5 : wf.cell? ⟨ga, 5, none⟩ = some (.bool false) := HAB.out.cell 5
        have a6 : wf.cell? ⟨ga, 6, none⟩ = some (.bool true) := HAB.out.cell 6
        have a7 : wf.cell? ⟨ga, 7, none⟩ = some (.int .i64 ttl) := HAB.out.cell 7
        have a8 : wf.cell? ⟨ga, 8, none⟩ = some (.slice A9 body.length c9) := HAB.out.cell 8
        have b0 : wf.cell? ⟨w.heap.size, 0, none⟩ = some (.int .u32 (src : Int)) := HL9.out.p.cell 0
        have b1 : wf.cell? ⟨w.heap.size, 1, none⟩ = some (.int .u32 (dst : Int)) := HL9.out.p.cell 1
        have b2 : wf.cell? ⟨w.heap.size, 2, none⟩ = some (.int .i64 proto) := HL9.out.p.cell 2
        have b3 : wf.cell? ⟨w.heap.size, 3, none⟩ = some (.int .i64 id) := HL9.out.p.cell 3
        have b7 : wf.cell? ⟨w.heap.size, 7, none⟩ = some (.int .i64 ttl) := HL9.out.p.cell 7
        have b8 : wf.cell? ⟨w.heap.size, 8, none⟩ = some (.slice A body.length cap) := HL9.out.p.cell 8
        have sA := run_str (P := Try.prog) Try.underlying23 Try.underlying5 Try.underlying9 (show Bs wf (.slice A9 body.length c9) body from HOw.out.bs)
        have sP := run_str (P := Try.prog) Try.underlying23 Try.underlying5 Try.underlying9 (Hp.out.below HL9.out.bel)
        obtain ⟨q4, r4⟩ := HCL.out wf HL9.out.mid
        have y30 : wf.cell? ⟨g3, kk * 9, none⟩ = some (.int .u32 (s1 : Int)) := r4 0 _ rfl
        have y31 : wf.cell? ⟨g3, kk * 9 + 1, none⟩ = some (.int .u32 (d1 : Int)) := r4 1 _ rfl
        have y32 : wf.cell? ⟨g3, kk * 9 + 2, none⟩ = some (.int .i64 pr1) := r4 2 _ rfl
        have y33 : wf.cell? ⟨g3, kk * 9 + 3, none⟩ = some (.int .i64 id1) := r4 3 _ rfl
        have y34 : wf.cell? ⟨g3, kk * 9 + 4, none⟩ = some (.int .i64 of1) := r4 4 _ rfl
        have y35 : wf.cell? ⟨g3, kk * 9 + 5, none⟩ = some (.bool mo1) := r4 5 _ rfl
        have y36 : wf.cell? ⟨g3, kk * 9 + 6, none⟩ = some (.bool wh1) := r4 6 _ rfl
        have y37 : wf.cell? ⟨g3, kk * 9 + 7, none⟩ = some (.int .i64 tt1) := r4 7 _ rfl
        have y38 : wf.cell? ⟨g3, kk * 9 + 8, none⟩ = some (.slice U1 bd1.length cu1) := r4 8 _ rfl
        have hA2 := HADD.out wf _ _ _ HL9.out.inv (by omega) q4
        unfold AddPost at hA2
        have HA2 := hid hA2
        clear hA2 q4 r4 sc zc hWf hga x30 x31 x32 x33 x34 x35 x36 x37 x38
        generalize hcode : (pAdd st2 ⟨s1, d1, pr1, id1, of1, mo1, wh1, tt1, bd1⟩).2.2 = code at HA2 HE3
        clear hcode
        generalize (pAdd st2 ⟨s1, d1, pr1, id1, of1, mo1, wh1, tt1, bd1⟩).2.1 = q5 at HA2
        obtain ⟨s5, d5, pr5, id5, of5, mo5, wh5, tt5, bd5⟩ := q5
        dsimp only [pkCells] at HA2
        have hcl : l.length = 1 ∧ code = 0 ∨ l.length > 1 ∧ code = 19 := by
          have := HE3.out
          split at this <;> omega
        have Hend := hid (show Below w.heap.size w wf from HL9.out.bel)
        go_upto_region 36 with fail
        rcases hcl with ⟨hc1, rfl⟩ | ⟨hc1, rfl⟩
        · have hc2 : ((l.length : Int) == 1) = true := by simp; omega
          have Hc1 := hid hc1
          clear hc1
          go_wp2_with (first
            | (go_at_call 21; refine HA2.out.mono ?_; rintro e w10 ⟨v10, rfl, hown, F10, hinv10, hfr10, hF10⟩; obtain ⟨A10, c10, rfl⟩ := slice_len hown.bs rfl; have HL10 := hid ((HL9.out.add hinv10 hfr10 hF10).keep (below_alloc w10 (.cells #[.int .u32 (s5 : Int), .int .u32 (d5 : Int), .int .i64 pr5, .int .i64 id5, .int .i64 of5, .bool mo5, .bool wh5, .int .i64 tt5, .slice A10 bd5.length c10] 25))); clear hown hinv10 hfr10 hF10)
            | fail)
          go_ret
          exact ⟨rfl, HL10.out.bel⟩
        · have hc2 : ((l.length : Int) == 1) = false := by simp; omega
          have hc3 : (l.length : Int) > 1 := by omega
          have hc4 : ¬ (l.length : Int) = 1 := by omega
          have Hc1 := hid hc1
          clear hc1
          go_wp2_with (first
            | (go_at_call 21; refine HA2.out.mono ?_; rintro e w10 ⟨v10, rfl, hown, F10, hinv10, hfr10, hF10⟩; obtain ⟨A10, c10, rfl⟩ := slice_len hown.bs rfl; have HL10 := hid ((HL9.out.add hinv10 hfr10 hF10).keep (below_alloc w10 (.cells #[.int .u32 (s5 : Int), .int .u32 (d5 : Int), .int .i64 pr5, .int .i64 id5, .int .i64 of5, .bool mo5, .bool wh5, .int .i64 tt5, .slice A10 bd5.length c10] 25))); clear hown hinv10 hfr10 hF10)
            | fail)
          go_ret
          exact ⟨rfl, HL10.out.bel⟩
end Go.Proofs.Ytbjiicnagfeciaa
