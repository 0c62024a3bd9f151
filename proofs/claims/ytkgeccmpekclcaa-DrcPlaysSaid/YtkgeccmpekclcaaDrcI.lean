/- A table's Begin: a full table in which no call is done. -/
import Derived.Test.YtkgeccmpekclcaaDrcH
namespace Go.Proofs.Ytkgeccmpekclcaa
open Go Go.RowKit
attribute [local go_sem ↓] Go.wp_at_zero Go.wp_at_succ
set_option maxRecDepth 100000

theorem begin1_read {w : World} {base gT n m : Nat} {L : List DIt} {vr : Value} {gM : Nat} {f : Value → Option Nat} (h : TabAt w base gT n m L vr gM f) :
    PredRead Try.prog 19 #[] (L.map DIt.ptr) (doneAt (L.map DIt.c)) w := by
  intro q i hi
  have hi' : i < L.length := by simpa using hi
  have hx := (h.it L[i] (List.getElem_mem hi')).1
  have hc := begin1_any L[i].g L[i].c.key L[i].c.done L[i].rv (w.drewN q) (hx.drewN q)
  have e1 : (L.map DIt.ptr)[i] = ptrV (some L[i].g) := by simp [DIt.ptr]
  have e2 : doneAt (L.map DIt.c) i = L[i].c.done := by simp [doneAt, hi']
  rw [e1, e2, Array.append_empty]
  refine hc.mono ?_
  rintro e w' ⟨rfl, q', rfl⟩
  exact ⟨rfl, q + q', by simp [World.drewN, Nat.add_assoc]⟩
theorem idx1_any {w : World} {base gT n m : Nat} {L : List DIt} {vr : Value} {gM : Nat} {f : Value → Option Nat} (h : TabAt w base gT n m L vr gM f) :
    Calls Try.prog 18 #[vr, .func (.func 19) #[] #[]] w fun e w' => e = .returned (.int .i64 (idxI (fidx (doneAt (L.map DIt.c)) L.length))) ∧ ∃ q, w' = w.drewN q := by
  have hrow := RowN.of_own h.row
  have := idx_any 19 #[] (enters_of Try.func19 (by kernel_rfl) rfl) vr (L.map DIt.ptr) (doneAt (L.map DIt.c)) w _ hrow (begin1_read h)
  rwa [List.length_map] at this

theorem begin_full (base gT n m : Nat) (l : List DCall) (k : DKey) (w : World) (h : TabInv w base gT n m l) (hb : base ≤ w.heap.size) (hk : k.Ok) (hc : l.find? (fun c => decide (c.key = k)) = none) (hn : l.length = n) (hd : fidx (doneAt l) l.length = none) :
    Calls Try.prog 9 #[ptrV (some gT), k.val] w (BeginPost base gT n m l k w) := by
  have Hr := hid (show drcBegin n l k = ((2, []), l) by unfold drcBegin; rw [hc]; simp only [hn, if_true]; rw [← hn, hd])
  obtain ⟨L, vr, gM, f, rfl, h⟩ := h
  rw [List.length_map] at hn hd
  subst hn
  obtain ⟨kl, hkl⟩ : ∃ kl, keyOf Try.prog 33 k.val = some kl := dkey_of k hk
  have hf : f k.val = none := h.miss k (find_miss hc)
  have K1 := hid (h.keep (below_alloc w (.cells k.cells.toArray 33)))
  have hlook : ∀ q, (Instr.lookup 59 (.map (some gM)) k.val false).run Try.prog ((w.alloc (.cells k.cells.toArray 33)).drewN q) = .ok (ptrV none) ((w.alloc (.cells k.cells.toArray 33)).drewN q) := fun q => by
    rw [(K1.out.map.drewN q).look dkeyed Try.underlying59 (ptrzero _) hkl, hf]
  obtain ⟨_, A, cap, hv, _, _, _⟩ := RowN.of_own h.row
  rw [List.length_map] at hv
  subst hv
  have hc2 : (w.alloc (.cells k.cells.toArray 33)).cell? ⟨gT, 2, none⟩ = some (.map (some gM)) := K1.out.tab.cell 2
  have Hb := hid hb
  have Hd := hid hd
  clear hkl hf hc hk hb hd
  obtain ⟨k1, k2, k3, k4, k5⟩ := k
  dsimp only [DKey.val, DKey.cells] at *
  unfold ptrV at hlook ⊢
  go_enter Try.func9, Try.ntmps9
  go_upto_region 1 with (fail)
  go_quiet (fail)
  have Kq := hid (K1.out.drewN nq)
  have HBq := hid (below_drewN (below_alloc w (.cells #[.int .u32 (k1 : Int), .int .i64 k2, .int .u32 (k3 : Int), .int .u32 (k4 : Int), .int .u32 (k5 : Int)] 33)) nq)
  generalize (w.alloc (.cells #[.int .u32 (k1 : Int), .int .i64 k2, .int .u32 (k3 : Int), .int .u32 (k4 : Int), .int .u32 (k5 : Int)] 33)).drewN nq = wq at Kq HBq ⊢
  have c0 := Kq.out.tab.cell 0
  have c1 := Kq.out.tab.cell 1
  clear hc2 hlook
  go_upto_region 6 with (fail)
  go_quiet (fail)
  have HI := hid (idx1_any (Kq.out.drewN nq))
  rw [Hd.out] at HI
  have HB2 := hid (below_drewN HBq.out nq)
  have K2 := hid (Kq.out.drewN nq)
  have c1 : (wq.drewN nq).cell? ⟨gT, 1, none⟩ = some (.slice A L.length cap) := c1
  generalize wq.drewN nq = wr at K2 HB2 HI c1 ⊢
  go_wp2_with (go_at_call 18; refine HI.out.mono ?_; rintro e w' ⟨rfl, q, rfl⟩; unfold idxI)
  go_ret2
  unfold BeginPost
  rw [Hr.out]
  exact ⟨_, rfl, OwnBs.nil _ _ _, TabInv.mono ⟨L, _, gM, f, rfl, K2.out.drewN q⟩ (by omega), (below_drewN HB2.out q).mono Hb.out, Below.spares (below_drewN HB2.out q)⟩
end Go.Proofs.Ytkgeccmpekclcaa
