/- The law's example of a table. -/
import Derived.Test.YtkgeccmpekclcaaDrcN
namespace Go.Proofs.Ytkgeccmpekclcaa
open Go Go.RowKit
set_option maxRecDepth 100000

theorem Spares.blk {w w' : World} (h : Spares w w') {g : Nat} {t : TypeId} {xs : List Value} (hb : Blk w g t xs) (h1 : t ≠ 62) (h2 : t ≠ 63) (h3 : t ≠ 65) : Blk w' g t xs := h.block g _ t _ hb h1 h2 h3
theorem new_ok (n : Nat) (nI : Int) (w : World) (hn : nI = n) (h1 : 1 ≤ n) (h2 : n ≤ 256) : Calls Try.prog 7 #[.int .i64 nI] w fun e w' => ∃ gT, e = .returned (.tuple #[ptrV (some gT), .int .i64 0]) ∧ TabInv w' w.heap.size gT n 0 [] ∧ Below w.heap.size w w' := by
  subst hn
  refine (new_any n w).mono ?_
  rintro e w' ⟨hb, ⟨h, _⟩ | ⟨_, gT, rfl, hT⟩⟩
  · omega
  · rw [Int.toNat_natCast] at hT
    exact ⟨gT, rfl, hT, hb⟩
def kA : DKey := ⟨0, 0, 1, 0, 0⟩
def kB : DKey := ⟨0, 0, 2, 0, 0⟩
theorem kA_ok : kA.Ok := ⟨by decide, by decide, by decide, by decide, by decide, by decide⟩
theorem kB_ok : kB.Ok := ⟨by decide, by decide, by decide, by decide, by decide, by decide⟩
theorem ex1 : drcBegin 1 [] kA = ((1, []), [⟨kA, false, []⟩]) := rfl
theorem ex2 : drcBegin 1 [⟨kA, false, []⟩] kB = ((2, []), [⟨kA, false, []⟩]) := rfl
theorem ex3 : drcEnd [⟨kA, false, []⟩] kA [114] = ([⟨kA, true, [114]⟩], 0) := rfl
theorem ex4 : drcBegin 1 [⟨kA, true, [114]⟩] kB = ((1, []), [⟨kB, false, []⟩]) := rfl
theorem ex5 : drcBegin 1 [⟨kB, false, []⟩] kA = ((2, []), [⟨kB, false, []⟩]) := rfl
theorem begin_at (base gT n m : Nat) (l l' : List DCall) (k : DKey) (kv : Value) (code : Int) (rep : List UInt8) (w : World) (hkv : kv = k.val) (hr : drcBegin n l k = ((code, rep), l')) (h : TabInv w base gT n m l) (hb : base ≤ w.heap.size) (hk : k.Ok) (hn2 : n ≤ 256) (hln : l.length ≤ n) (hm : m < 100000) (hrep : ∀ c ∈ l, c.reply.length ≤ 1099511627776) :
    Calls Try.prog 9 #[.pointer (some ⟨gT, 0, none⟩), kv] w fun e w' => ∃ v', e = .returned (.tuple #[.int .i64 code, v']) ∧ OwnBs w' w.heap.size 5 v' rep ∧ TabInv w' base gT n (m + 1) l' ∧ Below base w w' ∧ Spares w w' := by
  subst hkv
  have := begin_any base gT n m l k w h hb hk hn2 hln hm hrep
  unfold BeginPost at this
  rw [hr] at this
  exact this
theorem end_at (base gT n m : Nat) (l l' : List DCall) (k : DKey) (kv v : Value) (r : List UInt8) (code : Int) (w : World) (hkv : kv = k.val) (hr0 : drcEnd l k r = (l', code)) (h : TabInv w base gT n m l) (hb : base ≤ w.heap.size) (hr : Bs w v r) (hl : r.length ≤ 1099511627776) :
    Calls Try.prog 12 #[.pointer (some ⟨gT, 0, none⟩), kv, v] w fun e w' => e = .returned (.int .i64 code) ∧ TabInv w' base gT n m l' ∧ Below base w w' ∧ Spares w w' := by
  subst hkv
  have := end_any base gT n m l k v r w h hb hr hl
  unfold EndPost at this
  rw [hr0] at this
  exact this

theorem conv_lit (w : World) : (convert 34 34 (.slice (some ⟨w.heap.size, 0, none⟩) 1 1)).run Try.prog (w.alloc (.cells #[.int .u8 114] 5)) = .ok (.slice (some ⟨w.heap.size, 0, none⟩) 1 1) (w.alloc (.cells #[.int .u8 114] 5 (1, 2))) := by
  have hsh : (w.alloc (.cells #[.int .u8 114] 5)).shape? w.heap.size = some (5, 1) := by
    have : (w.alloc (.cells #[.int .u8 114] 5)).heap[w.heap.size]? = some (.cells #[.int .u8 114] 5) := by
      show (w.heap.push _)[w.heap.size]? = _
      simp
    unfold World.shape?
    rw [this]
    rfl
  have hfr : (w.alloc (.cells #[.int .u8 114] 5)).freeze ⟨w.heap.size, 1, none⟩ 1 = w.alloc (.cells #[.int .u8 114] 5 (1, 2)) := by
    have hm : ∀ (a : Array Obj) (x : Obj) (g : Obj → Obj), (a.push x).modify a.size g = a.push (g x) := by
      intro a x g
      apply Array.ext
      · simp
      · intro i h1 h2
        simp only [Array.getElem_modify, Array.getElem_push]
        by_cases h : a.size = i
        · subst h; simp
        · have hi : i < a.size := by simp at h1; omega
          simp [h, hi]
    unfold World.freeze
    rw [if_neg (by decide)]
    show ({ w.alloc (.cells #[.int .u8 114] 5) with heap := (w.heap.push _).modify w.heap.size _ } : World) = _
    rw [hm]
    rfl
  simp [convert, run_underlying Try.underlying34, run_underlying Try.underlying5, markStringish, hsh, hfr]
theorem blk2 (w1 : World) : Blk ((w1.alloc (.cells #[.int .u32 0, .int .i64 0, .int .u32 1, .int .u32 0, .int .u32 0] 33)).alloc (.cells #[.int .u32 0, .int .i64 0, .int .u32 2, .int .u32 0, .int .u32 0] 33)) (w1.heap.size + 1) 33 #[.int .u32 0, .int .i64 0, .int .u32 2, .int .u32 0, .int .u32 0].toList := by
  have := Blk.new (w1.alloc (.cells #[.int .u32 0, .int .i64 0, .int .u32 1, .int .u32 0, .int .u32 0] 33)) 33 #[.int .u32 0, .int .i64 0, .int .u32 2, .int .u32 0, .int .u32 0]
  rwa [World.size_alloc] at this
set_option maxHeartbeats 2000000 in
theorem known_any (w : World) : Calls Try.prog 6 #[] w fun e w' => e = .returned (.bool true) ∧ Below w.heap.size w w' := by
  have hcv := conv_lit
  go_enter Try.func6, Try.ntmps6
  go_wp2_with (first | (go_at_call 7; refine (new_ok 1 1 _ rfl (by decide) (by decide)).mono ?_; rintro e w1 ⟨gT, rfl, ht, hb1⟩; unfold ptrV; have H1 := hid (ht.keep (below_alloc' (below_alloc w1 (.cells #[.int .u32 0, .int .i64 0, .int .u32 1, .int .u32 0, .int .u32 0] 33)) (.cells #[.int .u32 0, .int .i64 0, .int .u32 2, .int .u32 0, .int .u32 0] 33))); have Hb1 := hid (hb1.trans ((below_alloc' (below_alloc w1 (.cells #[.int .u32 0, .int .i64 0, .int .u32 1, .int .u32 0, .int .u32 0] 33)) (.cells #[.int .u32 0, .int .i64 0, .int .u32 2, .int .u32 0, .int .u32 0] 33)).mono hb1.size)); clear ht hb1) | (go_at_call 9; refine (begin_at w.heap.size gT 1 0 [] [⟨kA, false, []⟩] kA _ 1 [] _ rfl ex1 H1.out Hb1.out.size kA_ok (by decide) (by decide) (by decide) (by simp)).mono ?_; rintro e w2 ⟨v2, rfl, _, ht, hbn, hsp⟩; have hk3 := hsp.blk ((Blk.new w1 33 #[.int .u32 0, .int .i64 0, .int .u32 1, .int .u32 0, .int .u32 0]).alloc _) (by decide) (by decide) (by decide); have hk4 := hsp.blk (blk2 w1) (by decide) (by decide) (by decide); have p0 := hk3.cell 0; have p1 := hk3.cell 1; have p2 := hk3.cell 2; have p3 := hk3.cell 3; have p4 := hk3.cell 4; have q0 := hk4.cell 0; have q1 := hk4.cell 1; have q2 := hk4.cell 2; have q3 := hk4.cell 3; have q4 := hk4.cell 4; have Hk3 := hid hk3; have Hk4 := hid hk4; clear hk3 hk4; have H2 := hid ht; have Hb2 := hid (Hb1.out.trans hbn); clear H1 ht hbn hsp) | (go_at_call 9; refine (begin_at w.heap.size gT 1 1 [⟨kA, false, []⟩] [⟨kA, false, []⟩] kB _ 2 [] _ rfl ex2 H2.out Hb2.out.size kB_ok (by decide) (by decide) (by decide) (by simp)).mono ?_; rintro e w3 ⟨v3, rfl, _, ht, hbn, hsp⟩; have hk3 := hsp.blk Hk3.out (by decide) (by decide) (by decide); have hk4 := hsp.blk Hk4.out (by decide) (by decide) (by decide); clear Hk3 Hk4 p0 p1 p2 p3 p4 q0 q1 q2 q3 q4; have p0 := hk3.cell 0; have p1 := hk3.cell 1; have p2 := hk3.cell 2; have p3 := hk3.cell 3; have p4 := hk3.cell 4; have q0 := hk4.cell 0; have q1 := hk4.cell 1; have q2 := hk4.cell 2; have q3 := hk4.cell 3; have q4 := hk4.cell 4; have Hk3 := hid hk3; have Hk4 := hid hk4; clear hk3 hk4; have H3 := hid ht; have Hb3 := hid (Hb2.out.trans hbn); clear H2 ht hbn hsp) | (go_at_call 12; refine (end_at w.heap.size gT 1 2 [⟨kA, false, []⟩] [⟨kA, true, [114]⟩] kA _ _ [114] 0 _ rfl ex3 (H3.out.keep (below_alloc _ _)) (by have := Hb3.out.size; simp; omega) (bs_litm #[.int .u8 114] [114] 1 _ rfl rfl (by decide) rfl) (by decide)).mono ?_; rintro e w4 ⟨rfl, ht, hbn, hsp⟩; have hk3 := hsp.blk (Hk3.out.alloc _) (by decide) (by decide) (by decide); have hk4 := hsp.blk (Hk4.out.alloc _) (by decide) (by decide) (by decide); clear Hk3 Hk4 p0 p1 p2 p3 p4 q0 q1 q2 q3 q4; have p0 := hk3.cell 0; have p1 := hk3.cell 1; have p2 := hk3.cell 2; have p3 := hk3.cell 3; have p4 := hk3.cell 4; have q0 := hk4.cell 0; have q1 := hk4.cell 1; have q2 := hk4.cell 2; have q3 := hk4.cell 3; have q4 := hk4.cell 4; have Hk3 := hid hk3; have Hk4 := hid hk4; clear hk3 hk4; have H4 := hid ht; have Hb4 := hid ((Hb3.out.alloc Hb3.out.size _).trans hbn); clear H3 ht hbn hsp) | (go_at_call 9; refine (begin_at w.heap.size gT 1 2 [⟨kA, true, [114]⟩] [⟨kB, false, []⟩] kB _ 1 [] _ rfl ex4 H4.out Hb4.out.size kB_ok (by decide) (by decide) (by decide) (by simp)).mono ?_; rintro e w5 ⟨v5, rfl, _, ht, hbn, hsp⟩; have hk3 := hsp.blk Hk3.out (by decide) (by decide) (by decide); have hk4 := hsp.blk Hk4.out (by decide) (by decide) (by decide); clear Hk3 Hk4 p0 p1 p2 p3 p4 q0 q1 q2 q3 q4; have p0 := hk3.cell 0; have p1 := hk3.cell 1; have p2 := hk3.cell 2; have p3 := hk3.cell 3; have p4 := hk3.cell 4; have q0 := hk4.cell 0; have q1 := hk4.cell 1; have q2 := hk4.cell 2; have q3 := hk4.cell 3; have q4 := hk4.cell 4; have Hk3 := hid hk3; have Hk4 := hid hk4; clear hk3 hk4; have H5 := hid ht; have Hb5 := hid (Hb4.out.trans hbn); clear H4 ht hbn hsp) | (go_at_call 9; refine (begin_at w.heap.size gT 1 3 [⟨kB, false, []⟩] [⟨kB, false, []⟩] kA _ 2 [] _ rfl ex5 H5.out Hb5.out.size kA_ok (by decide) (by decide) (by decide) (by simp)).mono ?_; rintro e w6 ⟨v6, rfl, _, ht, hbn, hsp⟩; have hk3 := hsp.blk Hk3.out (by decide) (by decide) (by decide); have hk4 := hsp.blk Hk4.out (by decide) (by decide) (by decide); clear Hk3 Hk4 p0 p1 p2 p3 p4 q0 q1 q2 q3 q4; have p0 := hk3.cell 0; have p1 := hk3.cell 1; have p2 := hk3.cell 2; have p3 := hk3.cell 3; have p4 := hk3.cell 4; have q0 := hk4.cell 0; have q1 := hk4.cell 1; have q2 := hk4.cell 2; have q3 := hk4.cell 3; have q4 := hk4.cell 4; have Hk3 := hid hk3; have Hk4 := hid hk4; clear hk3 hk4; have H6 := hid ht; have Hb6 := hid (Hb5.out.trans hbn); clear H5 ht hbn hsp))
  go_ret
  exact ⟨rfl, Hb6.out⟩
end Go.Proofs.Ytkgeccmpekclcaa
