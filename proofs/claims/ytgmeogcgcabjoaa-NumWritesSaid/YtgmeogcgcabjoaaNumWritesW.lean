/- The walk of NumWrites. -/
import Derived.Test.YtgmeogcgcabjoaaNumReadsW
namespace Go.Proofs.Ytgmeogcgcabjoaa
open Go Go.RowKit

/-- what stays while the law runs -/
structure NwInv (w0 : World) (v vl : Value) (b : List UInt8) (l : List Nat) (g : Nat) (w : World) : Prop where
  lent : Blk w g 5 (marks9 b)
  hb : Bs w v b
  hu : U64s w vl l
  bel : Below w0.heap.size w0 w
theorem NwInv.step {w0 w w' : World} {v vl : Value} {b : List UInt8} {l : List Nat} {g : Nat} (h : NwInv w0 v vl b l g w) (k : Below w.heap.size w w') : NwInv w0 v vl b l g w' :=
  ⟨h.lent.keep k, h.hb.below k, h.hu.below k, h.bel.trans (k.mono h.bel.size)⟩

theorem numWrites_walk (v : Value) (b : List UInt8) (n : Int) (vl : Value) (l : List Nat) (w : World) (h : Bs w v b) (hl : b.length ≤ 140737488351232) (hU : U64s w vl l) :
    Calls Try.prog 6 #[v, .int .i64 n, vl] w fun e w' => e = .returned (.bool true) ∧ Below w.heap.size w w' := by
  have Hb := hid h; have HU := hid hU
  obtain ⟨A, cap, rfl, k1, k2, _⟩ := hU.cells
  clear h hU
  by_cases hbig : 3000 < l.length
  · go_enter Try.func6, Try.ntmps6
    go_wp2_with ((go_at_call 9; refine (known_any _).mono ?_; rintro e w' ⟨rfl, hb2⟩); have Hb3 := hid hb2; clear hb2)
    go_ret
    exact ⟨rfl, Hb3.out⟩
  · have hsz : b.length + 8 * l.length ≤ 190000000000000 := by omega
    go_enter Try.func6, Try.ntmps6
    go_wp2_with (first
      | ((go_at_call 9; refine (known_any _).mono ?_; rintro e w' ⟨rfl, hb2⟩); have Hb3 := hid hb2; clear hb2)
      | ((go_at_call 10; refine (lend_any _ b _ (Hb.out.below Hb3.out) (by omega)).mono ?_; rintro e w' ⟨g, rfl, hg, hblk, hb1⟩); have HI := hid (NwInv.mk hblk ((Hb.out.below Hb3.out).below hb1) ((HU.out.below Hb3.out).below hb1) (Hb3.out.trans (hb1.mono Hb3.out.size))); clear hblk hb1 hg)
      | ((go_at_call 17; refine (putLe_any _ b _ _ l _ (marks9_bs HI.out.lent (by omega)) HI.out.hu hsz).mono ?_; rintro e w' ⟨v1, rfl, hown1, hb⟩); have HI1 := hid (HI.out.step hb); have HA1 := hid hown1.bs; clear hb hown1)
      | ((go_at_call 16; refine (putBe_any _ b _ _ l _ (marks9_bs HI1.out.lent (by omega)) HI1.out.hu hsz).mono ?_; rintro e w' ⟨v2, rfl, hown2, hb⟩); have HI2 := hid (HI1.out.step hb); have HA2 := hid (HA1.out.below hb); have HB2 := hid hown2.bs; clear hb hown2)
      | ((go_at_call 18; refine (rputLe_any _ b _ _ l _ HI2.out.hb HI2.out.hu hsz).mono ?_; rintro e w' ⟨v3, rfl, hown3, hb⟩); have HI3 := hid (HI2.out.step hb); have HA3 := hid (HA2.out.below hb); have HB3 := hid (HB2.out.below hb); have HC3 := hid hown3.bs; clear hb hown3)
      | ((go_at_call 19; refine (rputBe_any _ b _ _ l _ HI3.out.hb HI3.out.hu hsz).mono ?_; rintro e w' ⟨v4, rfl, hown4, hb⟩); have HI4 := hid (HI3.out.step hb); have s1 := run_str Try.underlying24 Try.underlying5 Try.underlying9 (HA3.out.below hb); have s2 := run_str Try.underlying24 Try.underlying5 Try.underlying9 (HB3.out.below hb); have s3 := run_str Try.underlying24 Try.underlying5 Try.underlying9 (HC3.out.below hb); have s4 := run_str Try.underlying24 Try.underlying5 Try.underlying9 hown4.bs; clear hb hown4)
      | ((go_at_call 13; refine (kept_any _ _ b _ HI4.out.hb (by omega) HI4.out.lent).mono ?_; rintro e w' ⟨rfl, hb4⟩); have HI5 := hid (HI4.out.step hb4); clear hb4))
    go_ret
    exact ⟨rfl, HI5.out.bel⟩
end Go.Proofs.Ytgmeogcgcabjoaa
