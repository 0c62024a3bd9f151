/- Contracts of frames, their cells as letters. -/
import Derived.Test.YtefpfjdfkecjkaaEthL
import Derived.Test.YtefpfjdfkecjkaaLeaves
namespace Go.Proofs.Ytefpfjdfkecjkaa
open Go Go.RowKit
set_option maxRecDepth 100000

/-- the fourteen cells of a frame -/
def FrmC (f : Frm) (v x0 x1 x2 x3 x4 x5 x6 x7 x8 x9 x10 x11 x12 x13 : Value) : Prop := [x0, x1, x2, x3, x4, x5, x6, x7, x8, x9, x10, x11, x12, x13] = f.cells v
theorem FrmC.one {f : Frm} {A : Option Addr} {n c : Nat} {x0 x1 x2 x3 x4 x5 x6 x7 x8 x9 x10 x11 x12 x13 : Value} (h : FrmC f (.slice A n c) x0 x1 x2 x3 x4 x5 x6 x7 x8 x9 x10 x11 x12 x13) : [x0, x1, x2, x3, x4, x5, x6, x7, x8, x9, x10, x11, x12, x13].all (·.oneCell') = true := by
  unfold FrmC at h; rw [h]; simp [Frm.cells, Mac.cells, Value.oneCell']
def GotFrm (f : Frm) (c : Int) (w : World) (e : Ending) (w' : World) : Prop :=
  ∃ A cap x0 x1 x2 x3 x4 x5 x6 x7 x8 x9 x10 x11, e = .returned (.tuple #[.agg #[x0, x1, x2, x3, x4, x5, x6, x7, x8, x9, x10, x11, .int .i64 f.kind, .slice A f.body.length cap], .int .i64 c]) ∧ FrmC f (.slice A f.body.length cap) x0 x1 x2 x3 x4 x5 x6 x7 x8 x9 x10 x11 (.int .i64 f.kind) (.slice A f.body.length cap) ∧ Bs w' (.slice A f.body.length cap) f.body ∧ Below w.heap.size w w'
theorem parse_of (v : Value) (b : List UInt8) (f : Frm) (c : Int) (w : World) (hf : eParse b = (f, c)) (h : Bs w v b) (hl : b.length ≤ 100000000) : Calls Try.prog 8 #[v] w (GotFrm f c w) := by
  refine (parse_any v b w h hl).mono ?_
  unfold ParsePost
  rw [hf]
  rintro e w' ⟨v', rfl, hown, hb⟩
  obtain ⟨A, cap, rfl⟩ := slice_len hown.bs rfl
  exact ⟨A, cap, _, _, _, _, _, _, _, _, _, _, _, _, rfl, rfl, hown.bs, hb⟩
theorem rparse_of (v : Value) (b : List UInt8) (f : Frm) (c : Int) (w : World) (hf : eParse b = (f, c)) (h : Bs w v b) (hl : b.length ≤ 100000000) : Calls Try.prog 9 #[v] w (GotFrm f c w) := by
  refine (rparse_any v b w h hl).mono ?_
  unfold ParsePost
  rw [hf]
  rintro e w' ⟨v', rfl, hown, hb⟩
  obtain ⟨A, cap, rfl⟩ := slice_len hown.bs rfl
  exact ⟨A, cap, _, _, _, _, _, _, _, _, _, _, _, _, rfl, rfl, hown.bs, hb⟩
section
variable {f : Frm} {A : Option Addr} {n cap : Nat} {x0 x1 x2 x3 x4 x5 x6 x7 x8 x9 x10 x11 x12 x13 : Value}
def WroteFrm (b : List UInt8) (c : Int) (w : World) (e : Ending) (w' : World) : Prop := ∃ A cap, e = .returned (.tuple #[.slice A b.length cap, .int .i64 c]) ∧ Bs w' (.slice A b.length cap) b ∧ Below w.heap.size w w'
theorem write_of (hx : FrmC f (.slice A n cap) x0 x1 x2 x3 x4 x5 x6 x7 x8 x9 x10 x11 x12 x13) (b : List UInt8) (c : Int) (w : World) (hf : eWrite f = (b, c)) (h : Bs w (.slice A n cap) f.body) :
    Calls Try.prog 10 #[.agg #[x0, x1, x2, x3, x4, x5, x6, x7, x8, x9, x10, x11, x12, x13]] w (WroteFrm b c w) := by
  have := write_any f A n cap w h
  unfold FrmC at hx
  unfold Frm.val at this
  rw [← hx] at this
  refine this.mono ?_
  unfold WritePost
  rw [hf]
  rintro e w' ⟨v', rfl, hown, hb⟩
  obtain ⟨A', cap', rfl⟩ := slice_len hown.bs rfl
  exact ⟨A', cap', rfl, hown.bs, hb⟩
theorem rwrite_of (hx : FrmC f (.slice A n cap) x0 x1 x2 x3 x4 x5 x6 x7 x8 x9 x10 x11 x12 x13) (b : List UInt8) (c : Int) (w : World) (hf : eWrite f = (b, c)) (h : Bs w (.slice A n cap) f.body) :
    Calls Try.prog 11 #[.agg #[x0, x1, x2, x3, x4, x5, x6, x7, x8, x9, x10, x11, x12, x13]] w (WroteFrm b c w) := by
  have := rwrite_any f A n cap w h
  unfold FrmC at hx
  unfold Frm.val at this
  rw [← hx] at this
  refine this.mono ?_
  unfold WritePost
  rw [hf]
  rintro e w' ⟨v', rfl, hown, hb⟩
  obtain ⟨A', cap', rfl⟩ := slice_len hown.bs rfl
  exact ⟨A', cap', rfl, hown.bs, hb⟩
theorem theirs_of (hx : FrmC f (.slice A n cap) x0 x1 x2 x3 x4 x5 x6 x7 x8 x9 x10 x11 x12 x13) (w : World) :
    Calls Try.prog 12 #[.agg #[x0, x1, x2, x3, x4, x5, x6, x7, x8, x9, x10, x11, x12, x13]] w fun e w' => e = .returned (.agg #[x0, x1, x2, x3, x4, x5, x6, x7, x8, x9, x10, x11, x12, x13]) ∧ Below w.heap.size w w' := by
  have := theirs_any f A n cap w
  unfold FrmC at hx
  unfold Frm.val at this
  rw [← hx] at this
  exact this
theorem same_of {B : Option Addr} {m dap : Nat} {y0 y1 y2 y3 y4 y5 y6 y7 y8 y9 y10 y11 y12 y13 : Value} (hx : FrmC f (.slice A n cap) x0 x1 x2 x3 x4 x5 x6 x7 x8 x9 x10 x11 x12 x13) (hy : FrmC f (.slice B m dap) y0 y1 y2 y3 y4 y5 y6 y7 y8 y9 y10 y11 y12 y13) (w : World) (h1 : Bs w (.slice A n cap) f.body) (h2 : Bs w (.slice B m dap) f.body) :
    Calls Try.prog 13 #[.agg #[x0, x1, x2, x3, x4, x5, x6, x7, x8, x9, x10, x11, x12, x13], .agg #[y0, y1, y2, y3, y4, y5, y6, y7, y8, y9, y10, y11, y12, y13]] w fun e w' => e = .returned (.bool true) ∧ Below w.heap.size w w' := by
  have := same_any f A n cap B m dap w h1 h2
  unfold FrmC at hx hy
  unfold Frm.val at this
  rw [← hx, ← hy] at this
  exact this
end

def frameLeaves : List Leaf := [.int .u8, .int .u8, .int .u8, .int .u8, .int .u8, .int .u8, .int .u8, .int .u8, .int .u8, .int .u8, .int .u8, .int .u8, .int .i64, .bytes]
theorem leaf_u8 {w : World} {v : Value} (h : LeafOk w (.int .u8) v) : ∃ b : UInt8, v = .int .u8 (b.toNat : Int) := by
  obtain ⟨z, rfl, hz⟩ := h
  simp [Lit.wf, IntKind.min, IntKind.max, IntKind.bits, IntKind.signed] at hz
  refine ⟨UInt8.ofNat z.toNat, ?_⟩
  congr 1
  simp
  omega
theorem mac_of {w : World} {ls : List Leaf} {cs : List Value} (h : Leaves w (.int .u8 :: .int .u8 :: .int .u8 :: .int .u8 :: .int .u8 :: .int .u8 :: ls) cs) : ∃ (m : Mac) (r : List Value), cs = m.cells ++ r ∧ Leaves w ls r := by
  obtain ⟨c0, r0, rfl, h0, k0⟩ := h.cons
  obtain ⟨c1, r1, rfl, h1, k1⟩ := k0.cons
  obtain ⟨c2, r2, rfl, h2, k2⟩ := k1.cons
  obtain ⟨c3, r3, rfl, h3, k3⟩ := k2.cons
  obtain ⟨c4, r4, rfl, h4, k4⟩ := k3.cons
  obtain ⟨c5, r5, rfl, h5, k5⟩ := k4.cons
  obtain ⟨b0, rfl⟩ := leaf_u8 h0
  obtain ⟨b1, rfl⟩ := leaf_u8 h1
  obtain ⟨b2, rfl⟩ := leaf_u8 h2
  obtain ⟨b3, rfl⟩ := leaf_u8 h3
  obtain ⟨b4, rfl⟩ := leaf_u8 h4
  obtain ⟨b5, rfl⟩ := leaf_u8 h5
  exact ⟨⟨b0, b1, b2, b3, b4, b5⟩, r5, rfl, k5⟩
theorem i64_ok {x : Int} (h : (Lit.int .i64 x).wf = true) : -9223372036854775808 ≤ x ∧ x ≤ 9223372036854775807 := by
  simp [Lit.wf, IntKind.min, IntKind.max, IntKind.bits, IntKind.signed] at h; omega
theorem frame_of (w : World) (cs : List Value) (h : Leaves w frameLeaves cs) : ∃ (f : Frm) (v : Value), cs = f.cells v ∧ Bs w v f.body ∧ -9223372036854775808 ≤ f.kind ∧ f.kind ≤ 9223372036854775807 := by
  unfold frameLeaves at h
  obtain ⟨m1, r1, rfl, k1⟩ := mac_of h
  obtain ⟨m2, r2, rfl, k2⟩ := mac_of k1
  obtain ⟨c0, r3, rfl, h0, k3⟩ := k2.cons
  obtain ⟨c1, r4, rfl, h1, k4⟩ := k3.cons
  obtain rfl := k4.nil
  obtain ⟨z, rfl, hz⟩ := h0
  obtain ⟨b, hb⟩ := h1
  exact ⟨⟨m1, m2, z, b⟩, c1, by simp [Frm.cells], hb, i64_ok hz⟩
end Go.Proofs.Ytefpfjdfkecjkaa
