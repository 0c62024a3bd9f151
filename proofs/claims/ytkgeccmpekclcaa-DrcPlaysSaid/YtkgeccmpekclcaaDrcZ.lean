/- The document's table's Begin, whole; its End. -/
import Derived.Test.YtkgeccmpekclcaaDrcY
import Derived.Deep.Cut
import Derived.Deep.CutRange
namespace Go.Proofs.Ytkgeccmpekclcaa
open Go Go.RowKit
attribute [local go_sem ↓] Go.wp_at_zero Go.wp_at_succ
set_option maxRecDepth 100000

theorem rbegin_at (base gX n : Nat) (l l' : List DCall) (k : DKey) (kv : Value) (code : Int) (rep : List UInt8) (w : World) (hkv : kv = k.val) (hr : drcBegin n l k = ((code, rep), l')) (h : RefInv w base gX n l) (hb : base ≤ w.heap.size) (hl : l.length ≤ 100000) (hln : l.length ≤ n) (hrep : ∀ c ∈ l, c.reply.length ≤ 1099511627776) :
    Calls Try.prog 10 #[.pointer (some ⟨gX, 0, none⟩), kv] w fun e w' => ∃ v', e = .returned (.tuple #[.int .i64 code, v']) ∧ OwnBs w' w.heap.size 5 v' rep ∧ RefInv w' base gX n l' ∧ Below base w w' ∧ RSpares w w' ∧ (rep = [] ∨ Below w.heap.size w w') := by
  subst hkv
  have : Calls Try.prog 10 #[ptrV (some gX), k.val] w (RBeginPost base gX n l k w) := by
    cases hc : l.find? (fun c => decide (c.key = k)) with
    | some c => exact rbegin_hit base gX n l k w h hb hl hrep c hc
    | none =>
      by_cases hn : l.length = n
      · cases hd : fidx (doneAt l) l.length with
        | none => exact rbegin_stuck base gX n l k w h hb hl hn hd hc
        | some i => exact rbegin_drop base gX n l k w h hb hl hn i hd hc
      · exact rbegin_room base gX n l k w h hb hl (by omega) hc
  unfold RBeginPost at this
  rw [hr] at this
  exact this

def REndPost (base gX n gm : Nat) (l : List DCall) (k : DKey) (r : List UInt8) (w : World) (e : Ending) (w' : World) : Prop :=
  e = .returned (.int .i64 (drcEnd l k r).2) ∧ RefOff w' base gX n (drcEnd l k r).1 gm ∧ Below base w w' ∧ RSpares w w'

theorem rend_empty (base gX n gm : Nat) (vL : Value) (k : DKey) (v : Value) (r : List UInt8) (w : World) (h : RefAt w base gX n [] vL) (hb : base ≤ w.heap.size) :
    Calls Try.prog 13 #[ptrV (some gX), k.val, v] w (REndPost base gX n gm [] k r w) := by
  obtain ⟨k1, k2, k3, k4, k5⟩ := k
  dsimp only [DKey.val, DKey.cells]
  have K1 := hid (h.keep (below_alloc w (.cells #[.int .u32 (k1 : Int), .int .i64 k2, .int .u32 (k3 : Int), .int .u32 (k4 : Int), .int .u32 (k5 : Int)] 40)))
  obtain ⟨_, A, cap, hv, q1, q2, hc⟩ := RowN.of_own h.row
  subst hv
  have hc1 : (w.alloc (.cells #[.int .u32 (k1 : Int), .int .i64 k2, .int .u32 (k3 : Int), .int .u32 (k4 : Int), .int .u32 (k5 : Int)] 40)).cell? ⟨gX, 1, none⟩ = some (.slice A ([] : List RIt).length cap) := K1.out.tab.cell 1
  have Hb := hid hb
  clear hc q1 q2 h hb
  unfold ptrV
  go_enter Try.func13, Try.ntmps13
  go_wp2_with fail
  go_loopw [7] (fun i wr => i = .int .i64 0 ∧ wr = (w.alloc (.cells #[.int .u32 (k1 : Int), .int .i64 k2, .int .u32 (k3 : Int), .int .u32 (k4 : Int), .int .u32 (k5 : Int)] 40))) (fun _ _ => 0)
  case atStart => exact ⟨rfl, rfl⟩
  case round =>
    obtain ⟨rfl, rfl⟩ := hrel
    go_wp2_with fail
    go_ret
    exact ⟨rfl, ⟨[], _, rfl, K1.out, fun x hx => (by cases hx)⟩, (below_alloc w _).mono Hb.out, Below.rspares (below_alloc w _)⟩
end Go.Proofs.Ytkgeccmpekclcaa
