/- All of it, if it is there. -/
import Derived.Test.YtbjiicnagfeciaaPtE
import Derived.Test.YtbjiicnagfeciaaPtB
import Derived.Laws.CopyRow
import Derived.Laws.IdiomCopy
import Derived.Deep.RegionLaw
import Derived.BigRegion
import Derived.Deep.RegionHeld3
namespace Go.Proofs.Ytbjiicnagfeciaa
open Go Go.RowKit
attribute [local go_sem ↓] Go.wp_at_zero Go.wp_at_succ
set_option maxRecDepth 100000

theorem step_copyB {P : Program} {ops : Array Oper} {o : Oper} {a : Act} {w : World} {K : Act → World → Prop} {Q : Exit → Act → World → Prop} {Ep : Prop} (hgd : o.guard = none) (d s : Operand) (T : TypeId)
    (ho : o.op = .call { callee := .builtin .copy, args := #[d, s], argTypes := #[T, T] }) (E : TypeId) (he : ElemOk P T E (.int .u8 0) 1 1)
    (dp : Option Addr) (dLen dCap : Nat) (hd : a.eval d = .slice dp dLen dCap) (y : Value) (cs : List UInt8) (hs : a.eval s = y) (hr : Bs w y cs)
    (g off : Nat) (hpos : 0 < cs.length → dp = some ⟨g, off, none⟩) (B : List UInt8) (t : TypeId) (hg : Blk w g t (B.map u8v)) (hcs : cs.length ≤ dLen) (hfit : off + dLen ≤ B.length)
    (h : ∀ w', Blk w' g t ((B.take off ++ cs ++ B.drop (off + cs.length)).map u8v) → w.grownBy w' (some g) → K (a.put o.dst (goInt cs.length)) w') :
    if Region.wanted o (yielded ops a.tmps) = true then Oper.wp P o a w K Q else Ep := by
  have hw : Region.wanted o (yielded ops a.tmps) = true := by simp [Region.wanted, hgd]
  rw [if_pos hw]
  obtain ⟨hu, ⟨i, hi, _, hsz, _⟩, _⟩ := he
  have hsz' : (P.info? E).map (·.size) = some 1 := by rw [hi]; simp [hsz]
  obtain ⟨_, A, c, rfl, h1, h2, h3⟩ := hr
  have hmin : Nat.min cs.length dLen = cs.length := Nat.min_eq_left hcs
  by_cases h0 : cs.length = 0
  · obtain rfl : cs = [] := List.eq_nil_of_length_eq_zero h0
    have hrun := run_copy_none (P := P) w T T o.type E dp A dLen dCap ([] : List UInt8).length c hu hsz' (by simp)
    unfold Oper.wp
    simp only [execOp, ho, resolve, invoke, builtin, Sem.run_bind, Sem.run_pure, Result.andThen_ok, List.map_toArray, List.map_cons, List.map_nil, hd, hs, hrun]
    exact h w (by simpa using hg) ⟨rfl, rfl, rfl, Nat.le_refl _, fun _ _ _ => rfl⟩
  · obtain rfl := hpos (by omega)
    rcases h3 with h3 | ⟨b, o1, rfl, hc⟩
    · exact absurd h3 h0
    · have hrun := run_copy_row (P := P) w T T o.type E g off dLen dCap ⟨b, o1, none⟩ cs.length c (B.map u8v).toArray t (cs.map u8v) hu hsz' hg (by rw [List.length_map, hmin]) (fun j v hj => by rw [add_off]; exact hc j v hj) (by simp; omega) (u8_one _)
      rw [List.length_map] at hrun
      unfold Oper.wp
      simp only [execOp, ho, resolve, invoke, builtin, Sem.run_bind, Sem.run_pure, Result.andThen_ok, List.map_toArray, List.map_cons, List.map_nil, hd, hs, hrun]
      refine h _ ?_ ⟨rfl, rfl, rfl, by simp [World.setRow], fun k _ hk => setRow_other w g k _ (fun e => hk (by rw [e]))⟩
      have := setRow_heap w g (B.map u8v).toArray ((B.map u8v).take off ++ cs.map u8v ++ (B.map u8v).drop (off + cs.length)).toArray t _ hg
      simpa [Blk] using this

theorem far_cellP {w : World} {p q : Addr} {u x : Value} (h : q.block ≠ p.block) (hx : w.cell? q = some x) : (w.setCell p u).cell? q = some x := by
  have e := Below.heap_setCell w p u q.block h
  simpa [World.cell?, e] using hx
theorem own_of_blk {w : World} {base g n : Nat} {bs : List UInt8} (h : Blk w g 5 (bs.map u8v)) (hb : base ≤ g) (hn : bs.length = n) (hm : n ≤ maxLen) : OwnBs w base 5 (.slice (some ⟨g, 0, none⟩) n n) bs := by
  subst hn
  refine ⟨by simp, .inr ⟨g, bs.length, (bs.map u8v).toArray, rfl, hb, h, Nat.le_refl _, hm, by simp, ?_⟩⟩
  simp only [Nat.mul_one]
  exact List.take_of_length_le (by simp)
theorem two_new (w : World) (A B : Array Value) (ta tb : TypeId) :
    Below w.heap.size w ((w.alloc (.cells A ta)).alloc (.cells B tb)).drew ∧ Blk ((w.alloc (.cells A ta)).alloc (.cells B tb)).drew w.heap.size ta A.toList ∧ Blk ((w.alloc (.cells A ta)).alloc (.cells B tb)).drew (w.heap.size + 1) tb B.toList := by
  refine ⟨(below_alloc' (below_alloc w _) _).drew, ((Blk.new w ta A).alloc _).drew, ?_⟩
  have := Blk.new (w.alloc (.cells A ta)) tb B
  rw [World.size_alloc] at this
  exact this.drew
theorem pSum_snoc (l : List Pk) (k : Nat) (hk : k < l.length) : pSum (l.take (k + 1)) = pSum (l.take k) + l[k].body.length := by
  unfold pSum
  rw [take_snoc l k hk, List.map_append, List.sum_append]; simp
theorem pBody_snoc (n : Nat) (l : List Pk) (k : Nat) (hk : k < l.length) : pBody n (l.take (k + 1)) = blit (pBody n (l.take k)) l[k].off l[k].body := by
  unfold pBody
  rw [take_snoc l k hk, List.foldl_append]; rfl
theorem pTtl_snoc (l : List Pk) (k : Nat) (hk : k < l.length) : pTtl (l.take (k + 1)) = if l[k].off = 0 then l[k].ttl else pTtl (l.take k) := by
  unfold pTtl
  rw [take_snoc l k hk, List.foldl_append]; rfl
theorem blit_len (b : List UInt8) (off : Int) (bs : List UInt8) (h0 : 0 ≤ off) (h : off + bs.length ≤ b.length) : (blit b off bs).length = b.length := by
  unfold blit; simp; omega
theorem pBody_len (n : Nat) (l : List Pk) (h : ∀ p ∈ l, 0 ≤ p.off ∧ p.to ≤ n) : (pBody n l).length = n := by
  have : ∀ (l : List Pk) (b : List UInt8), b.length = n → (∀ p ∈ l, 0 ≤ p.off ∧ p.to ≤ n) → (l.foldl (fun b x => blit b x.off x.body) b).length = n := by
    intro l
    induction l with
    | nil => intro b hb _; exact hb
    | cons p l ih =>
      intro b hb h
      have hp := h p (List.mem_cons_self ..)
      refine ih _ ?_ fun q hq => h q (List.mem_cons_of_mem _ hq)
      rw [blit_len b _ _ hp.1 (by have := hp.2; unfold Pk.to at this; omega), hb]
  exact this l _ (by simp) h

set_option maxHeartbeats 4000000 in
theorem whole_at (base : Nat) (x : WIt) (F : Nat → Prop) (w : World) (hit : ItAt w base x F) (hok : x.w.Ok) (hmany : x.qs.length ≤ 100000) :
    Calls Try.prog 39 #[ptrV (some x.g)] w fun e w' => ∃ v', e = .returned (.tuple #[.agg (pkCells (pWhole x.w.k x.w.parts x.w.fin).1 v').toArray, .bool (pWhole x.w.k x.w.parts x.w.fin).2]) ∧
      OwnBs w' w.heap.size 5 v' (pWhole x.w.k x.w.parts x.w.fin).1.body ∧ Below w.heap.size w w' := by
  by_cases hneg : x.w.fin < 0
  · have Hp := hid (show pWhole x.w.k x.w.parts x.w.fin = (pkZero, false) by unfold pWhole; rw [if_pos hneg])
    have c5 : (w.alloc (.cells #[.int .u32 0, .int .u32 0, .int .i64 0, .int .i64 0, .int .i64 0, .bool false, .bool false, .int .i64 0, .slice none 0 0] 25)).cell? ⟨x.g, 5, none⟩ = some (.int .i64 x.w.fin) := (hit.keep (below_alloc w _)).blk.cell 5
    clear hit hok
    unfold ptrV
    go_enter Try.func39, Try.ntmps39
    go_wp2_with fail
    refine ret_cell2 rfl w.heap.size 25 _ _ rfl (Blk.new w 25 #[.int .u32 0, .int .u32 0, .int .i64 0, .int .i64 0, .int .i64 0, .bool false, .bool false, .int .i64 0, .slice none 0 0]) Try.underlying25 pkinfo _ rfl rfl ?_
    rw [Hp.out]
    exact ⟨_, rfl, OwnBs.nil _ _ _, below_alloc _ _⟩
  obtain ⟨m, hm⟩ : ∃ m : Nat, x.w.fin = m := ⟨x.w.fin.toNat, by omega⟩
  obtain ⟨gx, hgx⟩ : ∃ g, x.g = g := ⟨_, rfl⟩
  have hle := hok.le (by omega)
  have hoff := hok.off
  have hfin := hok.fin
  have Hgx := hid hgx
  have Hmm := hid hm
  have Hp := hid (show pWhole x.w.k x.w.parts x.w.fin = (⟨x.w.k.src, x.w.k.dst, x.w.k.proto, x.w.k.id, 0, false, true, pTtl x.w.parts, pBody m x.w.parts⟩, decide (pSum x.w.parts = m)) by
    unfold pWhole
    rw [if_neg hneg, hm, Int.toNat_natCast]
    congr 2
    simp only [eq_iff_iff]
    omega)
  rw [hm] at hle hfin
  have c0 : (w.alloc (.cells #[.int .u32 0, .int .u32 0, .int .i64 0, .int .i64 0, .int .i64 0, .bool false, .bool false, .int .i64 0, .slice none 0 0] 25)).cell? ⟨gx, 0, none⟩ = some (.int .u32 (x.w.k.src : Int)) := by rw [← hgx]; exact (hit.keep (below_alloc w _)).blk.cell 0
  have c1 : (w.alloc (.cells #[.int .u32 0, .int .u32 0, .int .i64 0, .int .i64 0, .int .i64 0, .bool false, .bool false, .int .i64 0, .slice none 0 0] 25)).cell? ⟨gx, 1, none⟩ = some (.int .u32 (x.w.k.dst : Int)) := by rw [← hgx]; exact (hit.keep (below_alloc w _)).blk.cell 1
  have c2 : (w.alloc (.cells #[.int .u32 0, .int .u32 0, .int .i64 0, .int .i64 0, .int .i64 0, .bool false, .bool false, .int .i64 0, .slice none 0 0] 25)).cell? ⟨gx, 2, none⟩ = some (.int .i64 x.w.k.proto) := by rw [← hgx]; exact (hit.keep (below_alloc w _)).blk.cell 2
  have c3 : (w.alloc (.cells #[.int .u32 0, .int .u32 0, .int .i64 0, .int .i64 0, .int .i64 0, .bool false, .bool false, .int .i64 0, .slice none 0 0] 25)).cell? ⟨gx, 3, none⟩ = some (.int .i64 x.w.k.id) := by rw [← hgx]; exact (hit.keep (below_alloc w _)).blk.cell 3
  have c4 : (w.alloc (.cells #[.int .u32 0, .int .u32 0, .int .i64 0, .int .i64 0, .int .i64 0, .bool false, .bool false, .int .i64 0, .slice none 0 0] 25)).cell? ⟨gx, 4, none⟩ = some x.pv := by rw [← hgx]; exact (hit.keep (below_alloc w _)).blk.cell 4
  have c5 : (w.alloc (.cells #[.int .u32 0, .int .u32 0, .int .i64 0, .int .i64 0, .int .i64 0, .bool false, .bool false, .int .i64 0, .slice none 0 0] 25)).cell? ⟨gx, 5, none⟩ = some (.int .i64 (m : Int)) := by rw [← hgx, ← hm]; exact (hit.keep (below_alloc w _)).blk.cell 5
  have Hc := hid (And.intro c0 (And.intro c1 (And.intro c2 (And.intro c3 (And.intro c4 c5)))))
  have Hit := hid hit
  have Hle := hid hle
  have Hoff := hid hoff
  have hm0 : ¬ (m : Int) < 0 := by omega
  have hmk := run_make8 u8ok .i64 .i64 (m : Int) m rfl (by omega)
  have hrow := hit.row.rowN
  obtain ⟨n, hn⟩ : ∃ n, x.qs.length = n := ⟨_, rfl⟩
  have Hn := hid hn
  rw [hn] at hrow hmany
  obtain ⟨_, B, capB, hpv, hcB1, hcB2, _⟩ := (show RowN w 9 x.pv n (pkRow x.qs) from hrow)
  have Hpv := hid hpv
  rw [hpv] at c4
  have HR := hid hrow
  have hcB : capB ≤ 9223372036854775807 := by simp only [maxLen] at hcB2; omega
  have Hpl := hid (show x.w.parts.length = n by rw [← hit.fst, List.length_map, hn])
  rw [hgx]
  have HB0 := hid (below_alloc w (.cells #[.int .u32 0, .int .u32 0, .int .i64 0, .int .i64 0, .int .i64 0, .bool false, .bool false, .int .i64 0, .slice none 0 0] 25))
  have HZ := hid (Blk.new w 25 #[.int .u32 0, .int .u32 0, .int .i64 0, .int .i64 0, .int .i64 0, .bool false, .bool false, .int .i64 0, .slice none 0 0])
  clear hit hok hle hoff hneg hm hgx hrow hpv hn hcB2
  unfold ptrV
  go_enter Try.func39, Try.ntmps39
  go_upto_region 3 with (fail)
  generalize hw0 : w.alloc (.cells #[.int .u32 0, .int .u32 0, .int .i64 0, .int .i64 0, .int .i64 0, .bool false, .bool false, .int .i64 0, .slice none 0 0] 25) = wz at *
  go_cut [4] from 14 to 39 (fun s4 wx => ∃ gp gb : Nat, s4 = .pointer (some ⟨gp, 0, none⟩) ∧ wz.heap.size ≤ gp ∧ wz.heap.size ≤ gb ∧ Below wz.heap.size wz wx ∧ Blk wx gb 5 (List.replicate m (.int .u8 0)) ∧ Blk wx gp 25 [.int .u32 (x.w.k.src : Int), .int .u32 (x.w.k.dst : Int), .int .i64 x.w.k.proto, .int .i64 x.w.k.id, .int .i64 0, .bool false, .bool true, .int .i64 0, .slice (some ⟨gb, 0, none⟩) m m])
  case first =>
    go_region_held3 (fun wy => wy.cell? ⟨gx, 0, none⟩ = some (.int .u32 (x.w.k.src : Int)) ∧ wy.cell? ⟨gx, 1, none⟩ = some (.int .u32 (x.w.k.dst : Int)) ∧ wy.cell? ⟨gx, 2, none⟩ = some (.int .i64 x.w.k.proto) ∧ wy.cell? ⟨gx, 3, none⟩ = some (.int .i64 x.w.k.id) ∧ wy.cell? ⟨gx, 5, none⟩ = some (.int .i64 (m : Int))) (first | exact ⟨c0, c1, c2, c3, c5⟩ | (refine ⟨cell_below ?_ c0, cell_below ?_ c1, cell_below ?_ c2, cell_below ?_ c3, cell_below ?_ c5⟩ <;> repeat (first | exact Below.refl _ _ | exact below_alloc _ _ | exact below_drew _ | refine below_alloc' ?_ _ | refine Below.drew ?_))) (fail)
    all_goals
      go_wp2_with fail
      go_meet
      case rel =>
        first
        | exact ⟨wz.heap.size + 1, wz.heap.size, rfl, by omega, Nat.le_refl _, (two_new _ _ _ _ _).1, (two_new _ _ _ _ _).2.1, (two_new _ _ _ _ _).2.2⟩
        | exact ⟨wz.heap.size, wz.heap.size + 1, rfl, Nat.le_refl _, by omega, (two_new _ _ _ _ _).1, (two_new _ _ _ _ _).2.2, (two_new _ _ _ _ _).2.1⟩
  case rest =>
  obtain ⟨gp, gb, rfl, hgp, hgb, hbel, hbody, hpk⟩ := hcut
  have c4' : wc.cell? ⟨gx, 4, none⟩ = some (.slice B n capB) := cell_below hbel c4
  have Hbel := hid hbel
  have Hbody := hid hbody
  have Hpk := hid hpk
  have hzs : w.heap.size + 1 = wz.heap.size := by rw [← hw0]; simp
  have Hgp := hid hgp
  have Hgb := hid hgb
  clear hbel hbody hpk c0 c1 c2 c3 c4 c5 hmk hgp hgb
  go_wp2_with fail
  go_loopg [5, 45] n (fun gk s5 s45 wr => ∃ kk : Nat, kk ≤ n ∧ n - kk ≤ gk ∧ s45 = .int .i64 (kk : Int) ∧ (∃ c : Nat, s5 = .int .i64 (c : Int) ∧ Hid (c = pSum (x.w.parts.take kk)) ∧ c ≤ kk * 65515) ∧ Below wz.heap.size wz wr ∧ Blk wr gb 5 ((pBody m (x.w.parts.take kk)).map u8v) ∧
    (∃ tt : Int, Hid (tt = pTtl (x.w.parts.take kk)) ∧ Blk wr gp 25 [.int .u32 (x.w.k.src : Int), .int .u32 (x.w.k.dst : Int), .int .i64 x.w.k.proto, .int .i64 x.w.k.id, .int .i64 0, .bool false, .bool true, .int .i64 tt, .slice (some ⟨gb, 0, none⟩) m m]))
  case atStart => exact ⟨0, Nat.zero_le _, by omega, rfl, ⟨0, rfl, hid rfl, by omega⟩, Hbel.out, by have := Hbody.out; simpa [pBody, u8v] using this, 0, hid rfl, Hpk.out⟩
  case round =>
    obtain ⟨kk, hkk, hgk, rfl, ⟨c, rfl, HC, hcl⟩, hbel, hbody, tt, HT, hpk⟩ := hrel
    by_cases hkl : kk < n
    · have hkI : (kk : Int) < (n : Int) := by omega
      have hkp : kk < x.w.parts.length := by rw [Hpl.out]; exact hkl
      have hkq : kk < x.qs.length := by rw [Hn.out]; exact hkl
      have hbelw : Below w.heap.size w wr := HB0.out.trans (hbel.mono (by omega))
      obtain ⟨gB, oB, rfl, hcell⟩ := rowS_at (HR.out.keep (fun p u hp => cell_below hbelw hp)) Hn.out Hpv.out kk hkl
      have hPk : x.qs[kk].1 = x.w.parts[kk] := by
        have := Hit.out.fst
        simp [← this]
      have hbodyx := ((Hit.out.bod x.qs[kk] (List.getElem_mem hkq)).bs).below hbelw
      have hPok := Hoff.out x.w.parts[kk] (List.getElem_mem hkp)
      have hPle := Hle.out x.w.parts[kk] (List.getElem_mem hkp)
      have hS := pSum_snoc x.w.parts kk hkp
      have hB := pBody_snoc m x.w.parts kk hkp
      have hT := pTtl_snoc x.w.parts kk hkp
      have hBl := pBody_len m (x.w.parts.take kk) (fun p hp => ⟨(Hoff.out p (List.mem_of_mem_take hp)).1, Hle.out p (List.mem_of_mem_take hp)⟩)
      rw [hPk] at hcell hbodyx
      generalize x.qs[kk].2 = u at hcell hbodyx
      generalize x.w.parts[kk] = P at hcell hbodyx hPok hPle hS hB hT
      obtain ⟨s1, d1, pr1, id1, of1, mo1, wh1, tt1, bd1⟩ := P
      simp only [Pk.to] at hPok hPle hS hB hT
      obtain ⟨k, rfl⟩ : ∃ k : Nat, of1 = k := ⟨of1.toNat, by omega⟩
      have HS := hid hS
      have HB := hid hB
      have HT2 := hid hT
      obtain ⟨_, U, cu, rfl, k3, k4, _⟩ := (show Bs wr u bd1 from hbodyx)
      have HX := hid hbodyx
      have e0 : wr.cell? ⟨gB, oB + kk * 9, none⟩ = some (.int .u32 (s1 : Int)) := hcell 0 _ rfl
      have e1 : wr.cell? ⟨gB, oB + kk * 9 + 1, none⟩ = some (.int .u32 (d1 : Int)) := hcell 1 _ rfl
      have e2 : wr.cell? ⟨gB, oB + kk * 9 + 2, none⟩ = some (.int .i64 pr1) := hcell 2 _ rfl
      have e3 : wr.cell? ⟨gB, oB + kk * 9 + 3, none⟩ = some (.int .i64 id1) := hcell 3 _ rfl
      have e4 : wr.cell? ⟨gB, oB + kk * 9 + 4, none⟩ = some (.int .i64 (k : Int)) := hcell 4 _ rfl
      have e5 : wr.cell? ⟨gB, oB + kk * 9 + 5, none⟩ = some (.bool mo1) := hcell 5 _ rfl
      have e6 : wr.cell? ⟨gB, oB + kk * 9 + 6, none⟩ = some (.bool wh1) := hcell 6 _ rfl
      have e7 : wr.cell? ⟨gB, oB + kk * 9 + 7, none⟩ = some (.int .i64 tt1) := hcell 7 _ rfl
      have e8 : wr.cell? ⟨gB, oB + kk * 9 + 8, none⟩ = some (.slice U bd1.length cu) := hcell 8 _ rfl
      have hlx : bd1.length ≤ 65515 := by omega
      have hkm : k + bd1.length ≤ m := by omega
      have hj1 : IntKind.i64.wrap ((kk : Int) + 1) = ((kk + 1 : Nat) : Int) := by rw [IntWalk.i64_in _ (by omega)]; omega
      have hcc : IntKind.i64.wrap ((c : Int) + (bd1.length : Int)) = ((c + bd1.length : Nat) : Int) := by rw [IntWalk.i64_in _ (by omega)]; omega
      have hpb := hbody
      have Hbody2 := hid (hbody.alloc (.cells #[.int .u32 (s1 : Int), .int .u32 (d1 : Int), .int .i64 pr1, .int .i64 id1, .int .i64 (k : Int), .bool mo1, .bool wh1, .int .i64 tt1, .slice U bd1.length cu] 25))
      have Hpk2 := hid (hpk.alloc (.cells #[.int .u32 (s1 : Int), .int .u32 (d1 : Int), .int .i64 pr1, .int .i64 id1, .int .i64 (k : Int), .bool mo1, .bool wh1, .int .i64 tt1, .slice U bd1.length cu] 25))
      have Hbel2 := hid (hbel.alloc hbel.size (.cells #[.int .u32 (s1 : Int), .int .u32 (d1 : Int), .int .i64 pr1, .int .i64 id1, .int .i64 (k : Int), .bool mo1, .bool wh1, .int .i64 tt1, .slice U bd1.length cu] 25))
      have HXn := hid (Blk.new wr 25 #[.int .u32 (s1 : Int), .int .u32 (d1 : Int), .int .i64 pr1, .int .i64 id1, .int .i64 (k : Int), .bool mo1, .bool wh1, .int .i64 tt1, .slice U bd1.length cu])
      have HX2 := hid (HX.out.alloc (.cells #[.int .u32 (s1 : Int), .int .u32 (d1 : Int), .int .i64 pr1, .int .i64 id1, .int .i64 (k : Int), .bool mo1, .bool wh1, .int .i64 tt1, .slice U bd1.length cu] 25))
      have hgn : gb ≠ wr.heap.size := fun e => by have := hbody.lt; omega
      have hgn2 : gp ≠ wr.heap.size := fun e => by have := hpk.lt; omega
      have hgn3 : gb ≠ gp := Blk.ne hbody hpk (by decide)
      have Hgn := hid (And.intro hgn (And.intro hgn2 hgn3))
      have HBl := hid hBl
      clear hcell hbodyx hPk hS hB hT k3 hbel hbelw hPok hPle hpb hbody hpk hgn hgn2 hgn3 hBl hkp hkq
      go_upto_region 8 with (fail)
      have p8 : (wr.alloc (.cells #[.int .u32 (s1 : Int), .int .u32 (d1 : Int), .int .i64 pr1, .int .i64 id1, .int .i64 (k : Int), .bool mo1, .bool wh1, .int .i64 tt1, .slice U bd1.length cu] 25)).cell? ⟨gp, 8, none⟩ = some (.slice (some ⟨gb, 0, none⟩) m m) := Hpk2.out.cell 8
      have x4 : (wr.alloc (.cells #[.int .u32 (s1 : Int), .int .u32 (d1 : Int), .int .i64 pr1, .int .i64 id1, .int .i64 (k : Int), .bool mo1, .bool wh1, .int .i64 tt1, .slice U bd1.length cu] 25)).cell? ⟨wr.heap.size, 4, none⟩ = some (.int .i64 (k : Int)) := HXn.out.cell 4
      have x7 : (wr.alloc (.cells #[.int .u32 (s1 : Int), .int .u32 (d1 : Int), .int .i64 pr1, .int .i64 id1, .int .i64 (k : Int), .bool mo1, .bool wh1, .int .i64 tt1, .slice U bd1.length cu] 25)).cell? ⟨wr.heap.size, 7, none⟩ = some (.int .i64 tt1) := HXn.out.cell 7
      have x8 : (wr.alloc (.cells #[.int .u32 (s1 : Int), .int .u32 (d1 : Int), .int .i64 pr1, .int .i64 id1, .int .i64 (k : Int), .bool mo1, .bool wh1, .int .i64 tt1, .slice U bd1.length cu] 25)).cell? ⟨wr.heap.size, 8, none⟩ = some (.slice U bd1.length cu) := HXn.out.cell 8
      have hcut : ∀ wx, (Instr.sliceAt 23 (.slice (some ⟨gb, 0, none⟩) m m) (some (.int .i64 (k : Int))) none none).run Try.prog wx = .ok (.slice (cutA (some ⟨gb, 0, none⟩) m k 1) (m - k) (m - k)) wx := fun wx => by
        obtain ⟨_, ⟨i, hi, _, hs, _⟩, _⟩ := u8ok
        have := run_cut_from (P := Try.prog) (T := 23) Try.underlying23 hi (some ⟨gb, 0, none⟩) m m .i64 (k : Int) k (m - k) rfl (by omega) (Nat.le_refl _) wx
        rwa [hs] at this
      have Hpos := hid (show 0 < bd1.length → cutA (some ⟨gb, 0, none⟩) m k 1 = some ⟨gb, k, none⟩ from fun h => by
        unfold cutA
        rw [if_neg (by omega), Option.map_some, add_off]; simp)
      obtain ⟨dp, hdp⟩ : ∃ dp, cutA (some ⟨gb, 0, none⟩) m k 1 = dp := ⟨_, rfl⟩
      rw [hdp] at hcut Hpos
      clear hdp e0 e1 e2 e3 e4 e5 e6 e7 e8
      generalize hwr0 : wr.alloc (.cells #[.int .u32 (s1 : Int), .int .u32 (d1 : Int), .int .i64 pr1, .int .i64 id1, .int .i64 (k : Int), .bool mo1, .bool wh1, .int .i64 tt1, .slice U bd1.length cu] 25) = wy at *
      go_region_held3 (fun wq => wq.cell? ⟨gp, 8, none⟩ = some (.slice (some ⟨gb, 0, none⟩) m m) ∧ wq.cell? ⟨wr.heap.size, 4, none⟩ = some (.int .i64 (k : Int)) ∧ wq.cell? ⟨wr.heap.size, 8, none⟩ = some (.slice U bd1.length cu)) (first | exact ⟨p8, x4, x8⟩ | exact HS4.out) (first
        | (refine step_copyB (by rfl) _ _ 23 (by rfl) 5 u8ok dp (m - k) (m - k) (by rfl) (.slice U bd1.length cu) bd1 (by rfl) (by first | exact HX2.out | exact HX2.out.drew) gb k Hpos.out (pBody m (x.w.parts.take kk)) 5 (by first | exact Hbody2.out | exact Hbody2.out.drew) (by omega) (by rw [HBl.out]; omega) ?_; intro w4 hb4 hg4; have Hb4 := hid hb4; have Hg4 := hid (show wy.grownBy w4 (some gb) from by first | exact hg4 | exact grown_trans (grown_drew _ _) hg4); have HS4 := hid (show w4.cell? ⟨gp, 8, none⟩ = some (.slice (some ⟨gb, 0, none⟩) m m) ∧ w4.cell? ⟨wr.heap.size, 4, none⟩ = some (.int .i64 (k : Int)) ∧ w4.cell? ⟨wr.heap.size, 8, none⟩ = some (.slice U bd1.length cu) from ⟨cell_grown Hg4.out (fun e => Hgn.out.2.2 e.symm) p8, cell_grown Hg4.out (fun e => Hgn.out.1 e.symm) x4, cell_grown Hg4.out (fun e => Hgn.out.1 e.symm) x8⟩); clear hb4 hg4)
        | fail)
      have hpk4 := Hpk2.out.grown Hg4.out (fun e => Hgn.out.2.2 (by injection e with e; exact e.symm))
      have hbel4 : Below wz.heap.size wz w4 := Hbel2.out.grown Hg4.out Hbel2.out.size (fun k hk => by injection hk with hk; have := Hgb.out; omega)
      have y4 : w4.cell? ⟨wr.heap.size, 4, none⟩ = some (.int .i64 (k : Int)) := HS4.out.2.1
      have y7 : w4.cell? ⟨wr.heap.size, 7, none⟩ = some (.int .i64 tt1) := cell_grown Hg4.out (fun e => Hgn.out.1 e.symm) x7
      have p7 : w4.cell? ⟨gp, 7, none⟩ = some (.int .i64 tt) := hpk4.cell 7
      have z7 := hpk4.frozen 7
      have Hpk4 := hid hpk4
      have Hbel4 := hid hbel4
      have hS5 := hid (show c + bd1.length = pSum (x.w.parts.take (kk + 1)) by rw [HS.out, HC.out])
      have hB5 := hid (show Blk w4 gb 5 ((pBody m (x.w.parts.take (kk + 1))).map u8v) by rw [HB.out]; unfold blit; rw [Int.toNat_natCast]; exact Hb4.out)
      have T5 := HT2.out
      rw [← HT.out] at T5
      have HT5 := hid T5
      clear hpk4 hbel4 T5 HT2 HT HB HS HC Hb4 HS4 p8 x4 x7 x8 hcut Hpos Hbody2 Hpk2 Hbel2 HX HX2
      by_cases hk0 : k = 0
      · subst hk0
        go_wp2_with fail
        go_roundg (n - (kk + 1))
        case measure => omega
        case rel => exact ⟨kk + 1, by omega, Nat.le_refl _, rfl, ⟨c + bd1.length, val_int (by omega), hS5, by omega⟩, Below.grown Hbel4.out (grown_set _ _ _ _) Hbel4.out.size (fun k hk => by injection hk with hk; have := Hgp.out; omega), hB5.out.far (fun e => Hgn.out.2.2 e) _, tt1, hid (by rw [HT5.out]; simp), Hpk4.out.set_ 7 _⟩
      · have hk0I : ((k : Int) == 0) = false := by simpa using hk0
        have hk0J : ¬ (k : Int) = 0 := by omega
        go_wp2_with fail
        go_roundg (n - (kk + 1))
        case measure => omega
        case rel => exact ⟨kk + 1, by omega, Nat.le_refl _, rfl, ⟨c + bd1.length, val_int (by omega), hS5, by omega⟩, Hbel4.out, hB5.out, tt, hid (by rw [HT5.out, if_neg hk0J]), Hpk4.out⟩
    · obtain rfl : kk = n := by omega
      have hkI : ¬ (kk : Int) < (kk : Int) := by omega
      have hall : x.w.parts.take kk = x.w.parts := List.take_of_length_le (by rw [Hpl.out]; exact Nat.le_refl _)
      rw [hall] at hbody HC HT
      have hC := HC.out
      have hT := HT.out
      have hz := HZ.out.below hbel (by omega)
      have hbelw : Below w.heap.size w wr := HB0.out.trans (hbel.mono (by omega))
      have d5 : wr.cell? ⟨gx, 5, none⟩ = some (.int .i64 (m : Int)) := by rw [← Hgx.out, ← Hmm.out]; exact (Hit.out.keep hbelw).blk.cell 5
      have p0 : wr.cell? ⟨gp, 0, none⟩ = some (.int .u32 (x.w.k.src : Int)) := hpk.cell 0
      have p1 : wr.cell? ⟨gp, 1, none⟩ = some (.int .u32 (x.w.k.dst : Int)) := hpk.cell 1
      have p2 : wr.cell? ⟨gp, 2, none⟩ = some (.int .i64 x.w.k.proto) := hpk.cell 2
      have p3 : wr.cell? ⟨gp, 3, none⟩ = some (.int .i64 x.w.k.id) := hpk.cell 3
      have p4 : wr.cell? ⟨gp, 4, none⟩ = some (.int .i64 0) := hpk.cell 4
      have p5 : wr.cell? ⟨gp, 5, none⟩ = some (.bool false) := hpk.cell 5
      have p6 : wr.cell? ⟨gp, 6, none⟩ = some (.bool true) := hpk.cell 6
      have p7 : wr.cell? ⟨gp, 7, none⟩ = some (.int .i64 tt) := hpk.cell 7
      have p8 : wr.cell? ⟨gp, 8, none⟩ = some (.slice (some ⟨gb, 0, none⟩) m m) := hpk.cell 8
      have hgw : gx ≠ w.heap.size := fun e => by have := Hit.out.blk.lt; rw [Hgx.out] at this; omega
      have hgpw : gp ≠ w.heap.size := fun e => by have := Hgp.out; omega
      have hgbw : gb ≠ w.heap.size := fun e => by have := Hgb.out; omega
      have Hne := hid (And.intro hgw (And.intro hgpw hgbw))
      have Hz := hid hz
      have Hbelw := hid hbelw
      have Hbody3 := hid hbody
      have hT5 := hid hT
      have hC5 := hid hC
      have Hbl := hid (show (pBody m x.w.parts).length = m from pBody_len m x.w.parts (fun p hp => ⟨(Hoff.out p hp).1, Hle.out p hp⟩))
      obtain ⟨eb, heb⟩ : ∃ eb, decide ((c : Int) = (m : Int)) = eb := ⟨_, rfl⟩
      have hebb : ((c : Int) == (m : Int)) = eb := by rw [← heb, Bool.eq_iff_iff]; simp
      have Heb := hid heb
      clear heb hgw hgpw hgbw hbelw hbel hz hbody hpk HC HT hC hT hall
      go_upto_region 12 with (fail)
      have z0 : wr.cell? ⟨w.heap.size, 0, none⟩ = some (.int .u32 0) := Hz.out.cell 0
      have f0 := Hz.out.frozen 0
      have z1 : wr.cell? ⟨w.heap.size, 1, none⟩ = some (.int .u32 0) := Hz.out.cell 1
      have f1 := Hz.out.frozen 1
      have z2 : wr.cell? ⟨w.heap.size, 2, none⟩ = some (.int .i64 0) := Hz.out.cell 2
      have f2 := Hz.out.frozen 2
      have z3 : wr.cell? ⟨w.heap.size, 3, none⟩ = some (.int .i64 0) := Hz.out.cell 3
      have f3 := Hz.out.frozen 3
      have z4 : wr.cell? ⟨w.heap.size, 4, none⟩ = some (.int .i64 0) := Hz.out.cell 4
      have f4 := Hz.out.frozen 4
      have z5 : wr.cell? ⟨w.heap.size, 5, none⟩ = some (.bool false) := Hz.out.cell 5
      have f5 := Hz.out.frozen 5
      have z6 : wr.cell? ⟨w.heap.size, 6, none⟩ = some (.bool false) := Hz.out.cell 6
      have f6 := Hz.out.frozen 6
      have z7 : wr.cell? ⟨w.heap.size, 7, none⟩ = some (.int .i64 0) := Hz.out.cell 7
      have f7 := Hz.out.frozen 7
      have z8 : wr.cell? ⟨w.heap.size, 8, none⟩ = some (.slice none 0 0) := Hz.out.cell 8
      have f8 := Hz.out.frozen 8
      have hgw := Hne.out.1
      have hgw2 : w.heap.size ≠ gx := fun e => hgw e.symm
      go_region
      go_wp2_with fail
      refine ret_cell2 rfl w.heap.size 25 _ _ rfl ((((((((((Hz.out.set_ 0 _).set_ 1 _).set_ 2 _).set_ 3 _).set_ 4 _).set_ 5 _).set_ 6 _).set_ 7 _).set_ 8 _).drew) Try.underlying25 pkinfo _ rfl rfl ?_
      rw [Hp.out]
      have hg9 : wr.grownBy (((((((((wr.setCell ⟨w.heap.size, 0, none⟩ (.int .u32 (x.w.k.src : Int))).setCell ⟨w.heap.size, 1, none⟩ (.int .u32 (x.w.k.dst : Int))).setCell ⟨w.heap.size, 2, none⟩ (.int .i64 x.w.k.proto)).setCell ⟨w.heap.size, 3, none⟩ (.int .i64 x.w.k.id)).setCell ⟨w.heap.size, 4, none⟩ (.int .i64 0)).setCell ⟨w.heap.size, 5, none⟩ (.bool false)).setCell ⟨w.heap.size, 6, none⟩ (.bool true)).setCell ⟨w.heap.size, 7, none⟩ (.int .i64 tt)).setCell ⟨w.heap.size, 8, none⟩ (.slice (some ⟨gb, 0, none⟩) m m)) (some w.heap.size) :=
        grown_trans (grown_trans (grown_trans (grown_trans (grown_trans (grown_trans (grown_trans (grown_trans (grown_set _ _ _ _) (grown_set _ _ _ _)) (grown_set _ _ _ _)) (grown_set _ _ _ _)) (grown_set _ _ _ _)) (grown_set _ _ _ _)) (grown_set _ _ _ _)) (grown_set _ _ _ _)) (grown_set _ _ _ _)
      have hbb := Hbody3.out.grown hg9 (fun e => Hne.out.2.2 (by injection e))
      refine ⟨.slice (some ⟨gb, 0, none⟩) m m, ?_, ?_, ?_⟩
      · have e1 : decide (pSum x.w.parts = m) = eb := by
          rw [← Heb.out, ← hC5.out]
          exact decide_eq_decide.2 (by omega)
        rw [e1, ← hT5.out]
        rfl
      · exact own_of_blk hbb.drew (by have := Hgb.out; omega) Hbl.out (by simp only [maxLen]; omega)
      · exact ((Hbelw.out.grown hg9 Hbelw.out.size (fun k hk => by injection hk with hk; omega))).drew
end Go.Proofs.Ytbjiicnagfeciaa
