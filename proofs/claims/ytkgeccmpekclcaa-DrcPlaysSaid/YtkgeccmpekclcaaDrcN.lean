/- A table's Begin, whole; the law's example. -/
import Derived.Test.YtkgeccmpekclcaaDrcM
namespace Go.Proofs.Ytkgeccmpekclcaa
open Go Go.RowKit
attribute [local go_sem ↓] Go.wp_at_zero Go.wp_at_succ
set_option maxRecDepth 100000

theorem begin_any (base gT n m : Nat) (l : List DCall) (k : DKey) (w : World) (h : TabInv w base gT n m l) (hb : base ≤ w.heap.size) (hk : k.Ok) (hn2 : n ≤ 256) (hln : l.length ≤ n) (hm : m < 100000) (hrep : ∀ c ∈ l, c.reply.length ≤ 1099511627776) :
    Calls Try.prog 9 #[ptrV (some gT), k.val] w (BeginPost base gT n m l k w) := by
  cases hc : l.find? (fun c => decide (c.key = k)) with
  | some c => exact begin_hit base gT n m l k w h hb hk c hc (hrep c (List.mem_of_find?_eq_some hc))
  | none =>
    by_cases hn : l.length = n
    · cases hd : fidx (doneAt l) l.length with
      | none => exact begin_full base gT n m l k w h hb hk hc hn hd
      | some i => exact begin_drop base gT n m l k w h hb hk hc hn hn2 hm i hd
    · exact begin_new base gT n m l k w h hb hk hc hn hn2 hln hm

theorem drcBegin_len {n : Nat} {l : List DCall} {k : DKey} (hl : l.length ≤ n) (hn : 1 ≤ n) : (drcBegin n l k).2.length ≤ n := by
  unfold drcBegin
  split
  · split <;> exact hl
  · split
    · split
      · exact hl
      · rename_i i hi
        have := (fidx_some hi).1
        simp [List.length_eraseIdx, this]
        omega
    · rename_i h
      simp
      omega
end Go.Proofs.Ytkgeccmpekclcaa
