/- The walk of NumReads: at any place of any bytes the program reads what the document's reader reads, and the lent row is as it was. -/
import Derived.Test.YtgmeogcgcabjoaaNumL
namespace Go.Proofs.Ytgmeogcgcabjoaa
open Go Go.RowKit

theorem marks9_bs {w : World} {g : Nat} {b : List UInt8} (h : Blk w g 5 (marks9 b)) (hl : b.length ≤ 140737488355328) : Bs w (.slice (some ⟨g, 0, none⟩) b.length (b.length + 9)) b :=
  h.bs (by simp [marks9]) rfl (by omega) (by simp only [maxLen]; omega)

theorem numReads_walk (v : Value) (b : List UInt8) (p n : Int) (w : World) (h : Bs w v b) (hl : b.length ≤ 140737488351232) (h1 : -9223372036854775808 ≤ p) (h2 : p ≤ 9223372036854775807) :
    Calls Try.prog 7 #[v, .int .i64 p, .int .i64 n] w fun e w' => e = .returned (.bool true) ∧ Below w.heap.size w w' := by
  have Hb := hid h
  go_enter Try.func7, Try.ntmps7
  go_wp2_with (first
    | ((go_at_call 10; refine (lend_any _ b _ Hb.out (by omega)).mono ?_; rintro e w' ⟨g, rfl, hg, hblk, hb1⟩); have Hblk := hid hblk; have Hb1 := hid hb1; have Hm := hid (marks9_bs hblk (by omega)); have Hb2 := hid (Hb.out.below hb1); clear hblk hb1)
    | ((go_at_call 20; refine (le_any _ b _ _ _ Hm.out h1 h2).mono ?_; rintro e w' ⟨rfl, rfl⟩))
    | ((go_at_call 21; refine (be_any _ b _ _ _ Hm.out h1 h2).mono ?_; rintro e w' ⟨rfl, rfl⟩))
    | ((go_at_call 22; refine (rle_any _ b _ _ _ Hb2.out h1 h2).mono ?_; rintro e w' ⟨rfl, rfl⟩))
    | ((go_at_call 23; refine (rbe_any _ b _ _ _ Hb2.out h1 h2).mono ?_; rintro e w' ⟨rfl, rfl⟩))
    | ((go_at_call 9; refine (known_any _).mono ?_; rintro e w' ⟨rfl, hb2⟩); have Hb3 := hid hb2; clear hb2)
    | ((go_at_call 13; refine (kept_below g _ b _ (Hb2.out.below Hb3.out) (by omega) (Hblk.out.keep Hb3.out)).mono ?_; rintro e w' ⟨rfl, hb4⟩); have Hb4 := hid hb4; clear hb4))
  go_ret
  refine ⟨rfl, ?_⟩
  have e1 := Hb1.out
  have e2 := e1.trans (Hb3.out.mono e1.size)
  exact e2.trans (Hb4.out.mono e2.size)
end Go.Proofs.Ytgmeogcgcabjoaa
