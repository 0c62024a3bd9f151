/- Contract of the document's find. -/
import Derived.Test.YtbjiicnagfeciaaPtJ
import Derived.Test.YtbjiicnagfeciaaIpTwin
import Derived.Deep.CutRange
namespace Go.Proofs.Ytbjiicnagfeciaa
section
open Go Go.RowKit
attribute [local go_sem ↓] Go.wp_at_zero Go.wp_at_succ
set_option maxRecDepth 100000

/-- a part as the document lays it down -/
def twn (p : Pk) : Pk := twinOf p p.off p.more p.body
/-- one that waits, and where it lies: its block, the packet that made it, its parts' slice, their bodies -/
structure RIt where
  w : Wt
  g : Nat
  kp : Pk
  kv : Value
  pv : Value
  qs : List (Pk × Value)
def RIt.ptr (x : RIt) : Value := ptrV (some x.g)
def rwCells (kp : Pk) (kv : Value) (since : Int) (pv : Value) : List Value := pkCells kp kv ++ [.int .i64 since, pv]
structure RItAt (w : World) (base : Nat) (clock : Int) (x : RIt) (F : Nat → Prop) : Prop where
  blk : Blk w x.g 101 (rwCells x.kp x.kv (clock - x.w.age) x.pv)
  one : ∃ A n c, x.kv = .slice A n c
  key : x.kp.key = x.w.k
  row : RowAtS w base 35 9 x.pv x.qs.length (pkRow x.qs)
  bod : Bodies w base 5 x.qs
  fst : x.qs.map Prod.fst = x.w.parts.map twn
  fg : F x.g
  fp : ∀ k, x.pv.ownBlock = some k → F k
  fb : ∀ q ∈ x.qs, ∀ k, q.2.ownBlock = some k → F k
theorem RItAt.frame {w w' : World} {base : Nat} {clock : Int} {x : RIt} {F G : Nat → Prop} (h : RItAt w base clock x F) (hf : Frame G w w') (h1 : ¬ G x.g) (h2 : ∀ k, x.pv.ownBlock = some k → ¬ G k) (h3 : ∀ q ∈ x.qs, ∀ k, q.2.ownBlock = some k → ¬ G k) : RItAt w' base clock x F where
  blk := hf.blk h.blk h1
  one := h.one
  key := h.key
  row := h.row.same fun k hk => hf.block k (h.row.lt hk).2 (h2 k hk)
  bod q hq := hf.own (h.bod q hq) (h3 q hq)
  fst := h.fst
  fg := h.fg
  fp := h.fp
  fb := h.fb
theorem RItAt.keep {w w' : World} {base : Nat} {clock : Int} {x : RIt} {F : Nat → Prop} (h : RItAt w base clock x F) (hb : Below w.heap.size w w') : RItAt w' base clock x F :=
  h.frame (G := fun _ => False) (Below.frameF hb _) id (fun _ _ => id) (fun _ _ _ _ => id)
theorem RItAt.weaken {w : World} {base : Nat} {clock : Int} {x : RIt} {F F' : Nat → Prop} (h : RItAt w base clock x F) (hF : ∀ k, F k → F' k) : RItAt w base clock x F' :=
  ⟨h.blk, h.one, h.key, h.row, h.bod, h.fst, hF _ h.fg, fun k hk => hF _ (h.fp k hk), fun q hq k hk => hF _ (h.fb q hq k hk)⟩
/-- a write into a block of none of its types -/
theorem RItAt.other {w w' : World} {base : Nat} {clock : Int} {x : RIt} {F : Nat → Prop} (h : RItAt w base clock x F) {b : Nat} (hf : Frame (· = b) w w') (hb : ∀ t xs, Blk w b t xs → t ≠ 101 ∧ t ≠ 35 ∧ t ≠ 5) : RItAt w' base clock x F := by
  refine h.frame hf (fun e => ?_) (fun k hk e => ?_) (fun q hq k hk e => ?_)
  · subst e; exact (hb _ _ h.blk).1 rfl
  · subst e; obtain ⟨cur, hc⟩ := h.row.blk hk; exact (hb _ _ hc).2.1 rfl
  · subst e; obtain ⟨cur, hc⟩ := own_blkS (h.bod q hq) hk; exact (hb _ _ hc).2.2 rfl
theorem rblk_types {w : World} {b : Nat} {t0 : TypeId} {ys : List Value} (h : Blk w b t0 ys) (h0 : t0 ≠ 101 ∧ t0 ≠ 35 ∧ t0 ≠ 5) : ∀ t xs, Blk w b t xs → t ≠ 101 ∧ t ≠ 35 ∧ t ≠ 5 := by
  intro t xs hb
  unfold Blk at h hb
  rw [h] at hb
  injection hb with hb
  injection hb with _ hb
  subst hb
  exact h0
theorem RItAt.rowed {w w' : World} {base base2 size n : Nat} {clock : Int} {x : RIt} {F : Nat → Prop} {t : TypeId} {v : Value} {xs : List Value} (h : RItAt w base clock x F) (hr : RowAtS w base2 t size v n xs) (hg : w.grownBy w' v.ownBlock) (ht : t ≠ 101 ∧ t ≠ 35 ∧ t ≠ 5) : RItAt w' base clock x F := by
  rcases hv : v.ownBlock with _ | b
  · rw [hv] at hg
    exact h.frame (G := fun _ => False) (frame_grown hg (fun g hg => by cases hg)) id (fun _ _ => id) (fun _ _ _ _ => id)
  · rw [hv] at hg
    obtain ⟨cur, hb⟩ := hr.blk hv
    exact h.other (frame_one hg) (rblk_types hb ht)

structure RPtAt (w : World) (base g : Nat) (clock : Int) (L : List RIt) (m : Nat) (vr : Value) (F : Nat → Prop) : Prop where
  tab : Blk w g 66 [.int .i64 clock, vr]
  row : RowAtS w base 102 1 vr L.length (L.map RIt.ptr)
  it : ∀ x ∈ L, RItAt w base clock x F
  apart : L.Pairwise fun x y => x.g ≠ y.g ∧ ∀ k, x.pv.ownBlock = some k → y.pv.ownBlock ≠ some k
  ok : PtsOk (L.map RIt.w)
  few : ∀ x ∈ L, x.qs.length ≤ m
  fg : F g
  fr : ∀ k, vr.ownBlock = some k → F k
  flt : ∀ k, F k → base ≤ k ∧ k < w.heap.size
/-- the document's row of what waits, in block g -/
def RPt (w : World) (base g : Nat) (clock : Int) (l : List Wt) (m : Nat) (F : Nat → Prop) : Prop := ∃ L vr, L.map RIt.w = l ∧ RPtAt w base g clock L m vr F
theorem RPtAt.same {w w' : World} {base g : Nat} {clock : Int} {L : List RIt} {m : Nat} {vr : Value} {F : Nat → Prop} (h : RPtAt w base g clock L m vr F) {G : Nat → Prop} (hf : Frame G w w') (hd : ∀ k, F k → ¬ G k) : RPtAt w' base g clock L m vr F where
  tab := hf.blk h.tab (hd _ h.fg)
  row := h.row.same fun k hk => hf.block k (h.row.lt hk).2 (hd _ (h.fr k hk))
  it x hx := (h.it x hx).frame hf (hd _ (h.it x hx).fg) (fun k hk => hd _ ((h.it x hx).fp k hk)) (fun q hq k hk => hd _ ((h.it x hx).fb q hq k hk))
  apart := h.apart
  ok := h.ok
  few := h.few
  fg := h.fg
  fr := h.fr
  flt := fun k hk => ⟨(h.flt k hk).1, Nat.lt_of_lt_of_le (h.flt k hk).2 hf.size⟩
theorem RPtAt.keep {w w' : World} {base g : Nat} {clock : Int} {L : List RIt} {m : Nat} {vr : Value} {F : Nat → Prop} (h : RPtAt w base g clock L m vr F) (hb : Below w.heap.size w w') : RPtAt w' base g clock L m vr F :=
  h.same (G := fun _ => False) (Below.frameF hb _) (fun _ _ => id)
theorem RPt.frame {w w' : World} {base g : Nat} {clock : Int} {l : List Wt} {m : Nat} {F G : Nat → Prop} (h : RPt w base g clock l m F) (hf : Frame G w w') (hd : ∀ k, F k → ¬ G k) : RPt w' base g clock l m F := by
  obtain ⟨L, vr, e, h⟩ := h
  exact ⟨L, vr, e, h.same hf hd⟩
theorem RPt.keep {w w' : World} {base g : Nat} {clock : Int} {l : List Wt} {m : Nat} {F : Nat → Prop} (h : RPt w base g clock l m F) (hb : Below w.heap.size w w') : RPt w' base g clock l m F := by
  obtain ⟨L, vr, e, h⟩ := h
  exact ⟨L, vr, e, h.keep hb⟩
theorem RPt.lt {w : World} {base g : Nat} {clock : Int} {l : List Wt} {m : Nat} {F : Nat → Prop} (h : RPt w base g clock l m F) (k : Nat) (hk : F k) : base ≤ k ∧ k < w.heap.size := by
  obtain ⟨L, vr, e, h⟩ := h
  exact h.flt k hk
theorem RPt.new (w : World) : RPt (w.alloc (.cells #[.int .i64 0, .slice none 0 0] 66)) w.heap.size w.heap.size 0 [] 0 (fun k => k = w.heap.size) :=
  ⟨[], .slice none 0 0, rfl, Blk.new w 66 #[.int .i64 0, .slice none 0 0], RowAtS.nil _ _ _ _, fun x hx => (by cases hx), List.Pairwise.nil, ⟨fun x hx => (by cases hx), List.nodup_nil, by simp⟩, fun x hx => (by cases hx), rfl, fun k hk => (by simp [Value.ownBlock] at hk), fun k hk => by simp; omega⟩

/-! ### find -/

def rfindPost (L : List RIt) (k : PKey) (w : World) (e : Ending) (w' : World) : Prop :=
  Below w.heap.size w w' ∧ ((e = .returned (.pointer none) ∧ ∀ x ∈ L, x.w.k ≠ k) ∨ ∃ x ∈ L, e = .returned (ptrV (some x.g)) ∧ x.w.k = k)
end
section
open Go Go.RowKit
attribute [local go_sem ↓] Go.wp_at_zero Go.wp_at_succ
set_option maxRecDepth 100000

theorem rptr_at {w : World} {n : Nat} {L : List RIt} {B : Option Addr} {cap : Nat} (h : RowN w 1 (.slice B n cap) n (L.map RIt.ptr)) (hn : L.length = n) (k : Nat) (hk : k < n) : ∃ g off, B = some ⟨g, off, none⟩ ∧ w.cell? ⟨g, off + k, none⟩ = some (.pointer (some ⟨(L[k]'(by omega)).g, 0, none⟩)) := by
  obtain ⟨_, A', cap', hv, _, _, hc⟩ := h
  injection hv with e1 _ e3
  subst e1; subst e3
  rcases hc with h0 | ⟨g, off, rfl, hc⟩
  · omega
  · exact ⟨g, off, rfl, hc k _ (by rw [List.getElem?_map, List.getElem?_eq_getElem (show k < L.length by omega)]; rfl)⟩
set_option maxHeartbeats 4000000 in
theorem rfind_at (base g : Nat) (clock : Int) (L : List RIt) (m : Nat) (vr : Value) (F : Nat → Prop) (v : Value) (p : Pk) (w : World) (h : RPtAt w base g clock L m vr F) (hb : Bs w v p.body) :
    Calls Try.prog 46 #[.pointer (some ⟨g, 0, none⟩), .agg (pkCells p v).toArray] w (rfindPost L p.key w) := by
  obtain ⟨src, dst, proto, id, off, more, whole, ttl, body⟩ := p
  obtain ⟨_, A, cap, rfl, k1, k2, _⟩ := (show RowN w 1 v body.length (body.map u8v) from hb)
  have H := hid h
  obtain ⟨n, hn⟩ : ∃ n, L.length = n := ⟨_, rfl⟩
  have Hn := hid hn
  have hrow := h.row.rowN
  rw [hn] at hrow
  obtain ⟨_, B, capB, rfl, hcB1, hcB2, _⟩ := (show RowN w 1 vr n (L.map RIt.ptr) from hrow)
  have HR := hid hrow
  have hn4 : n ≤ 4 := by have := h.ok.len; simpa [hn] using this
  have hcB : capB ≤ 9223372036854775807 := by simp only [maxLen] at hcB2; omega
  have K0 := hid (below_alloc w (.cells #[.int .u32 (src : Int), .int .u32 (dst : Int), .int .i64 proto, .int .i64 id, .int .i64 off, .bool more, .bool whole, .int .i64 ttl, .slice A body.length cap] 35))
  have HPB := hid (Blk.new w 35 #[.int .u32 (src : Int), .int .u32 (dst : Int), .int .i64 proto, .int .i64 id, .int .i64 off, .bool more, .bool whole, .int .i64 ttl, .slice A body.length cap])
  clear h hb hrow hn hcB2 k1 k2
  dsimp only [pkCells]
  unfold rfindPost
  simp only [Pk.key]
  go_enter Try.func46, Try.ntmps46
  go_wp2_with fail
  go_loopg [5] n (fun gk s5 wr => ∃ kk : Nat, kk ≤ n ∧ n - kk ≤ gk ∧ s5 = .int .i64 (kk : Int) ∧ Below w.heap.size w wr ∧ Blk wr w.heap.size 35 [.int .u32 (src : Int), .int .u32 (dst : Int), .int .i64 proto, .int .i64 id, .int .i64 off, .bool more, .bool whole, .int .i64 ttl, .slice A body.length cap] ∧ Hid (∀ x ∈ L.take kk, x.w.k ≠ ⟨src, dst, proto, id⟩))
  case atStart => exact ⟨0, Nat.zero_le _, by omega, rfl, K0.out, HPB.out, hid fun x hx => by simp at hx⟩
  case round =>
    obtain ⟨kk, hkk, hgk, rfl, hbel, hpb, hno⟩ := hrel
    have c1 : wr.cell? ⟨g, 1, none⟩ = some (.slice B n capB) := (H.out.keep hbel).tab.cell 1
    by_cases hkl : kk < n
    · have hkI : (kk : Int) < (n : Int) := by omega
      have hkL : kk < L.length := by rw [Hn.out]; exact hkl
      obtain ⟨gB, oB, rfl, hcell⟩ := rptr_at (HR.out.keep (fun p u hp => cell_below hbel hp)) Hn.out kk hkl
      have hxm : L[kk] ∈ L := List.getElem_mem hkL
      have htk := take_snoc L kk hkL
      generalize L[kk] = x at hcell hxm htk
      have hxi := (H.out.it x hxm).keep hbel
      obtain ⟨kA, kn, kc, hkv⟩ := hxi.one
      have hxb := hxi.blk
      have hxk := hxi.key
      rw [hkv] at hxb
      have Htk := hid htk
      have Hxm := hid hxm
      have Hxk := hid hxk
      have Hbel := hid hbel
      have HPB2 := hid hpb
      generalize hkp : x.kp = P at hxb Hxk
      obtain ⟨s1, d1, pr1, id1, of1, mo1, wh1, tt1, bd1⟩ := P
      obtain ⟨gx, hgx⟩ : ∃ gx, x.g = gx := ⟨_, rfl⟩
      have Hgx := hid hgx
      rw [hgx] at hxb hcell
      have e0 : wr.cell? ⟨gx, 0, none⟩ = some (.int .u32 (s1 : Int)) := hxb.cell 0
      have e1 : wr.cell? ⟨gx, 1, none⟩ = some (.int .u32 (d1 : Int)) := hxb.cell 1
      have e2 : wr.cell? ⟨gx, 2, none⟩ = some (.int .i64 pr1) := hxb.cell 2
      have e3 : wr.cell? ⟨gx, 3, none⟩ = some (.int .i64 id1) := hxb.cell 3
      have e4 : wr.cell? ⟨gx, 4, none⟩ = some (.int .i64 of1) := hxb.cell 4
      have e5 : wr.cell? ⟨gx, 5, none⟩ = some (.bool mo1) := hxb.cell 5
      have e6 : wr.cell? ⟨gx, 6, none⟩ = some (.bool wh1) := hxb.cell 6
      have e7 : wr.cell? ⟨gx, 7, none⟩ = some (.int .i64 tt1) := hxb.cell 7
      have e8 : wr.cell? ⟨gx, 8, none⟩ = some (.slice kA kn kc) := hxb.cell 8
      clear hxi hkv hxb hxk htk hxm hgx hkp hbel hpb
      go_upto_region 5 with fail
      have hal := below_alloc wr (.cells #[.int .u32 (s1 : Int), .int .u32 (d1 : Int), .int .i64 pr1, .int .i64 id1, .int .i64 of1, .bool mo1, .bool wh1, .int .i64 tt1, .slice kA kn kc] 35)
      have c1' := cell_below hal c1
      have hcell' := cell_below hal hcell
      have p0 : (wr.alloc (.cells #[.int .u32 (s1 : Int), .int .u32 (d1 : Int), .int .i64 pr1, .int .i64 id1, .int .i64 of1, .bool mo1, .bool wh1, .int .i64 tt1, .slice kA kn kc] 35)).cell? ⟨w.heap.size, 0, none⟩ = some (.int .u32 (src : Int)) := (HPB2.out.keep hal).cell 0
      have p1 : (wr.alloc (.cells #[.int .u32 (s1 : Int), .int .u32 (d1 : Int), .int .i64 pr1, .int .i64 id1, .int .i64 of1, .bool mo1, .bool wh1, .int .i64 tt1, .slice kA kn kc] 35)).cell? ⟨w.heap.size, 1, none⟩ = some (.int .u32 (dst : Int)) := (HPB2.out.keep hal).cell 1
      have p2 : (wr.alloc (.cells #[.int .u32 (s1 : Int), .int .u32 (d1 : Int), .int .i64 pr1, .int .i64 id1, .int .i64 of1, .bool mo1, .bool wh1, .int .i64 tt1, .slice kA kn kc] 35)).cell? ⟨w.heap.size, 2, none⟩ = some (.int .i64 proto) := (HPB2.out.keep hal).cell 2
      have p3 : (wr.alloc (.cells #[.int .u32 (s1 : Int), .int .u32 (d1 : Int), .int .i64 pr1, .int .i64 id1, .int .i64 of1, .bool mo1, .bool wh1, .int .i64 tt1, .slice kA kn kc] 35)).cell? ⟨w.heap.size, 3, none⟩ = some (.int .i64 id) := (HPB2.out.keep hal).cell 3
      have hkn := Blk.new wr 35 #[.int .u32 (s1 : Int), .int .u32 (d1 : Int), .int .i64 pr1, .int .i64 id1, .int .i64 of1, .bool mo1, .bool wh1, .int .i64 tt1, .slice kA kn kc]
      have q0 : (wr.alloc (.cells #[.int .u32 (s1 : Int), .int .u32 (d1 : Int), .int .i64 pr1, .int .i64 id1, .int .i64 of1, .bool mo1, .bool wh1, .int .i64 tt1, .slice kA kn kc] 35)).cell? ⟨wr.heap.size, 0, none⟩ = some (.int .u32 (s1 : Int)) := hkn.cell 0
      have q1 : (wr.alloc (.cells #[.int .u32 (s1 : Int), .int .u32 (d1 : Int), .int .i64 pr1, .int .i64 id1, .int .i64 of1, .bool mo1, .bool wh1, .int .i64 tt1, .slice kA kn kc] 35)).cell? ⟨wr.heap.size, 1, none⟩ = some (.int .u32 (d1 : Int)) := hkn.cell 1
      have q2 : (wr.alloc (.cells #[.int .u32 (s1 : Int), .int .u32 (d1 : Int), .int .i64 pr1, .int .i64 id1, .int .i64 of1, .bool mo1, .bool wh1, .int .i64 tt1, .slice kA kn kc] 35)).cell? ⟨wr.heap.size, 2, none⟩ = some (.int .i64 pr1) := hkn.cell 2
      have q3 : (wr.alloc (.cells #[.int .u32 (s1 : Int), .int .u32 (d1 : Int), .int .i64 pr1, .int .i64 id1, .int .i64 of1, .bool mo1, .bool wh1, .int .i64 tt1, .slice kA kn kc] 35)).cell? ⟨wr.heap.size, 3, none⟩ = some (.int .i64 id1) := hkn.cell 3
      have HPB3 := hid (HPB2.out.keep hal)
      have Hbel3 := hid (Hbel.out.alloc Hbel.out.size (.cells #[.int .u32 (s1 : Int), .int .u32 (d1 : Int), .int .i64 pr1, .int .i64 id1, .int .i64 of1, .bool mo1, .bool wh1, .int .i64 tt1, .slice kA kn kc] 35))
      clear hal hkn c1 hcell e0 e1 e2 e3 e4 e5 e6 e7 e8
      generalize wr.alloc (.cells #[.int .u32 (s1 : Int), .int .u32 (d1 : Int), .int .i64 pr1, .int .i64 id1, .int .i64 of1, .bool mo1, .bool wh1, .int .i64 tt1, .slice kA kn kc] 35) = wz at *
      have hj1 : IntKind.i64.wrap ((kk : Int) + 1) = ((kk + 1 : Nat) : Int) := by rw [IntWalk.i64_in _ (by omega)]; omega
      have h5 : (s1 = src ∧ d1 = dst ∧ pr1 = proto ∧ id1 = id) ∨ (((s1 : Int) == (src : Int)) = false ∨ ((s1 : Int) == (src : Int)) = true ∧ ((d1 : Int) == (dst : Int)) = false ∨ ((s1 : Int) == (src : Int)) = true ∧ ((d1 : Int) == (dst : Int)) = true ∧ (pr1 == proto) = false ∨ ((s1 : Int) == (src : Int)) = true ∧ ((d1 : Int) == (dst : Int)) = true ∧ (pr1 == proto) = true ∧ (id1 == id) = false) ∧ ¬ (s1 = src ∧ d1 = dst ∧ pr1 = proto ∧ id1 = id) := by
        simp only [beq_iff_eq, beq_eq_false_iff_ne, ne_eq]
        omega
      rcases h5 with ⟨rfl, rfl, rfl, rfl⟩ | ⟨h5, hne⟩
      · go_wp2_with fail
        go_ret
        exact ⟨Hbel3.out, .inr ⟨x, Hxm.out, by rw [Hgx.out]; rfl, by rw [← Hxk.out]; rfl⟩⟩
      · have Hne := hid (show x.w.k ≠ ⟨src, dst, proto, id⟩ from fun e => by rw [← Hxk.out] at e; unfold Pk.key at e; injection e with a b c d; exact hne ⟨a, b, c, d⟩)
        clear hne
        rcases h5 with h | ⟨h, h2⟩ | ⟨h, h2, h3⟩ | ⟨h, h2, h3, h4⟩
        all_goals
          go_wp2_with fail
          go_roundg (n - (kk + 1))
          case measure => omega
          case rel => exact ⟨kk + 1, by omega, Nat.le_refl _, rfl, Hbel3.out, HPB3.out, hid (fun y hy => by
            rw [Htk.out] at hy
            rcases List.mem_append.1 hy with hy | hy
            · exact hno.out y hy
            · simp at hy; subst hy; exact Hne.out)⟩
    · obtain rfl : kk = n := by omega
      have hkI : ¬ (kk : Int) < (kk : Int) := by omega
      have Hbel := hid hbel
      clear hbel hpb
      go_wp2_with fail
      go_ret
      exact ⟨Hbel.out, .inl ⟨rfl, fun x hx => hno.out x (by rw [List.take_of_length_le (by rw [Hn.out]; exact Nat.le_refl _)]; exact hx)⟩⟩
end
end Go.Proofs.Ytbjiicnagfeciaa
