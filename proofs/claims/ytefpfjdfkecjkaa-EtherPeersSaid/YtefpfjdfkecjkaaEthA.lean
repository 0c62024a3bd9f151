/- Frames and addresses of six bytes; contracts of the law's theirs and same, of the document's mac and put. -/
import Derived.Test.YtefpfjdfkecjkaaNumH
import Derived.Test.YtefpfjdfkecjkaaKept
import Derived.Test.YtefpfjdfkecjkaaRegion2
import Derived.Deep.RegionHeld3
import Derived.Deep.DrawnRows
import Derived.Deep.Cut
import Derived.DeepKeys
import Derived.Deep.CutRange
namespace Go.Proofs.Ytefpfjdfkecjkaa
open Go Go.RowKit
attribute [local go_sem ↓] Go.wp_at_zero Go.wp_at_succ
set_option maxRecDepth 100000

/-- six bytes -/
structure Mac where
  b0 : UInt8
  b1 : UInt8
  b2 : UInt8
  b3 : UInt8
  b4 : UInt8
  b5 : UInt8
deriving DecidableEq
def Mac.bytes (m : Mac) : List UInt8 := [m.b0, m.b1, m.b2, m.b3, m.b4, m.b5]
def Mac.cells (m : Mac) : List Value := [.int .u8 (m.b0.toNat : Int), .int .u8 (m.b1.toNat : Int), .int .u8 (m.b2.toNat : Int), .int .u8 (m.b3.toNat : Int), .int .u8 (m.b4.toNat : Int), .int .u8 (m.b5.toNat : Int)]
def Mac.val (m : Mac) : Value := .agg m.cells.toArray
def Mac.zero : Mac := ⟨0, 0, 0, 0, 0, 0⟩
theorem Mac.cells_eq (m : Mac) : m.cells = m.bytes.map u8v := rfl
/-- the first six of a row -/
def macAt (b : List UInt8) (i : Nat) : Mac := ⟨b.getD i 0, b.getD (i + 1) 0, b.getD (i + 2) 0, b.getD (i + 3) 0, b.getD (i + 4) 0, b.getD (i + 5) 0⟩
/-- a frame -/
structure Frm where
  dst : Mac
  src : Mac
  kind : Int
  body : List UInt8
def Frm.cells (f : Frm) (bv : Value) : List Value := f.dst.cells ++ f.src.cells ++ [.int .i64 f.kind, bv]
def Frm.val (f : Frm) (bv : Value) : Value := .agg (f.cells bv).toArray

theorem eframeinfo : (Try.prog.info? 25).map (·.size) = some 14 := by kernel_rfl
theorem rframeinfo : (Try.prog.info? 30).map (·.size) = some 14 := by kernel_rfl
theorem macinfo : (Try.prog.info? 23).map (·.size) = some 6 := by kernel_rfl

theorem wf_u8 (b : UInt8) : (Lit.int .u8 (b.toNat : Int)).wf = true := by
  have := b.toNat_lt
  simp [Lit.wf, IntKind.min, IntKind.max, IntKind.bits, IntKind.signed]; omega
theorem klit_u8 (d : Nat) (b : UInt8) : Try.prog.keyLits (d + 1) 5 [.int .u8 (b.toNat : Int)] = some [.int .u8 (b.toNat : Int)] := by
  unfold Program.keyLits
  rw [Try.underlying5]
  simp [wf_u8 b]
def Mac.lits (m : Mac) : List Lit := [.int .u8 (m.b0.toNat : Int), .int .u8 (m.b1.toNat : Int), .int .u8 (m.b2.toNat : Int), .int .u8 (m.b3.toNat : Int), .int .u8 (m.b4.toNat : Int), .int .u8 (m.b5.toNat : Int)]
theorem Mac.lits_inj {a b : Mac} (h : a.lits = b.lits) : a = b := by
  obtain ⟨a0, a1, a2, a3, a4, a5⟩ := a
  obtain ⟨b0, b1, b2, b3, b4, b5⟩ := b
  simp only [Mac.lits, List.cons.injEq, Lit.int.injEq, true_and, and_true] at h
  obtain ⟨h0, h1, h2, h3, h4, h5⟩ := h
  simp only [Mac.mk.injEq]
  refine ⟨UInt8.toNat_inj.1 (by omega), UInt8.toNat_inj.1 (by omega), UInt8.toNat_inj.1 (by omega), UInt8.toNat_inj.1 (by omega), UInt8.toNat_inj.1 (by omega), UInt8.toNat_inj.1 (by omega)⟩
theorem kmac (m : Mac) : Try.prog.keyLits 2 23 m.val.cells.toList = some m.lits := by
  have h2 : Try.prog.cellsOf 23 = 6 := by kernel_rfl
  have h3 : Try.prog.cellsOf 5 = 1 := by kernel_rfl
  unfold Program.keyLits
  rw [Try.underlying23]
  simp [h2, h3, Mac.val, Mac.cells, Value.cells, klit_u8, Mac.lits, List.range, List.range.loop]
theorem run_mac_eq (a b : Mac) (w : World) : (Op.equalIn 10000 23 a.val b.val).run Try.prog w = .ok (decide (a = b)) w := by
  have hf : ∀ m : Mac, m.val.formed Try.prog 23 = true := fun m => by
    have h2 : Try.prog.cellsOf 23 = 6 := by kernel_rfl
    simp [Value.formed, Mac.val, Mac.cells, Try.underlying23, h2]
  obtain ⟨r, hr, hi⟩ := run_equalIn_deep (P := Try.prog) 9998 2 23 (by kernel_rfl) w 2 2 _ _ _ _ (hf a) (hf b) (kmac a) (kmac b)
  rw [show (9998 + 2 : Nat) = 10000 from rfl] at hr
  rw [hr]
  congr 1
  rw [Bool.eq_iff_iff, hi, decide_eq_true_iff]
  exact ⟨Mac.lits_inj, fun e => by rw [e]⟩

theorem theirs_any (f : Frm) (A : Option Addr) (n cap : Nat) (w : World) : Calls Try.prog 12 #[f.val (.slice A n cap)] w fun e w' => e = .returned (f.val (.slice A n cap)) ∧ Below w.heap.size w w' := by
  obtain ⟨⟨a0, a1, a2, a3, a4, a5⟩, ⟨b0, b1, b2, b3, b4, b5⟩, kind, body⟩ := f
  dsimp only [Frm.val, Frm.cells, Mac.cells, List.cons_append, List.nil_append]
  go_enter Try.func12, Try.ntmps12
  go_wp2_with fail
  have hb := Blk.new (w.alloc (.cells #[.int .u8 (a0.toNat : Int), .int .u8 (a1.toNat : Int), .int .u8 (a2.toNat : Int), .int .u8 (a3.toNat : Int), .int .u8 (a4.toNat : Int), .int .u8 (a5.toNat : Int), .int .u8 (b0.toNat : Int), .int .u8 (b1.toNat : Int), .int .u8 (b2.toNat : Int), .int .u8 (b3.toNat : Int), .int .u8 (b4.toNat : Int), .int .u8 (b5.toNat : Int), .int .i64 kind, .slice A n cap] 25)) 30 #[.int .u8 (a0.toNat : Int), .int .u8 (a1.toNat : Int), .int .u8 (a2.toNat : Int), .int .u8 (a3.toNat : Int), .int .u8 (a4.toNat : Int), .int .u8 (a5.toNat : Int), .int .u8 (b0.toNat : Int), .int .u8 (b1.toNat : Int), .int .u8 (b2.toNat : Int), .int .u8 (b3.toNat : Int), .int .u8 (b4.toNat : Int), .int .u8 (b5.toNat : Int), .int .i64 kind, .slice A n cap]
  rw [World.size_alloc] at hb
  refine ret_cell1 rfl _ _ _ _ rfl hb Try.underlying30 rframeinfo rfl ?_
  exact ⟨rfl, below_alloc' (below_alloc _ _) _⟩

/-- handed back: an array out of its block -/
theorem ret_arr1 {P : Program} {fn : Func} {R : Ending → World → Prop} {a : Act} {w : World} {p : Tmp} {ty : TypeId} (h : fn.results = #[.cell p ty]) (g : Nat) (t : TypeId) (cs : List Value) (m : Nat) (el : TypeId)
    (hp : a.tmps.getD p undef = .pointer (some ⟨g, 0, none⟩)) (hg : Blk w g t cs) (hu : P.underlying ty = some (.array m el)) (hi : (P.info? ty).map (·.size) = some cs.length)
    (hd : a.defers = []) (hR : R (.returned (.agg cs.toArray)) w) : bodyPost P fn R .ret a w :=
  bodyPost_ret (v := .agg cs.toArray) (results_cell_row h a.tmps w g t cs.toArray (0, 0) _ hp hg hu rfl (by simpa using hi)) hd hR
/-- .. and one value more -/
theorem ret_arr2 {P : Program} {fn : Func} {R : Ending → World → Prop} {a : Act} {w : World} {p u : Tmp} {ty : TypeId} (h : fn.results = #[.cell p ty, .tmp u]) (g : Nat) (t : TypeId) (cs : List Value) (m : Nat) (el : TypeId)
    (hp : a.tmps.getD p undef = .pointer (some ⟨g, 0, none⟩)) (hg : Blk w g t cs) (hu : P.underlying ty = some (.array m el)) (hi : (P.info? ty).map (·.size) = some cs.length)
    (v : Value) (hv : a.tmps.getD u undef = v) (hd : a.defers = []) (hR : R (.returned (.tuple #[.agg cs.toArray, v])) w) : bodyPost P fn R .ret a w := by
  refine bodyPost_ret (v := .tuple #[.agg cs.toArray, v]) ?_ hd hR
  rw [results_cell_tmp h, hp, hv]
  simp [asAddr, Result.andThen, run_loadVar_row w g t ty cs.toArray (0, 0) _ hg hu rfl (by simpa using hi)]
theorem run_mac_same (a : Mac) (w : World) : (Op.equalIn 10000 23 a.val a.val).run Try.prog w = .ok true w := by
  rw [run_mac_eq, decide_eq_true rfl]
theorem same_any (f : Frm) (A : Option Addr) (n cap : Nat) (B : Option Addr) (m dap : Nat) (w : World) (hf : Bs w (.slice A n cap) f.body) (hg : Bs w (.slice B m dap) f.body) :
    Calls Try.prog 13 #[f.val (.slice A n cap), f.val (.slice B m dap)] w fun e w' => e = .returned (.bool true) ∧ Below w.heap.size w w' := by
  obtain ⟨⟨a0, a1, a2, a3, a4, a5⟩, ⟨b0, b1, b2, b3, b4, b5⟩, kind, body⟩ := f
  have e1 := run_mac_same ⟨a0, a1, a2, a3, a4, a5⟩
  have e2 := run_mac_same ⟨b0, b1, b2, b3, b4, b5⟩
  have s1 := run_str Try.underlying22 Try.underlying5 Try.underlying9 ((hf.alloc (.cells #[.int .u8 (a0.toNat : Int), .int .u8 (a1.toNat : Int), .int .u8 (a2.toNat : Int), .int .u8 (a3.toNat : Int), .int .u8 (a4.toNat : Int), .int .u8 (a5.toNat : Int), .int .u8 (b0.toNat : Int), .int .u8 (b1.toNat : Int), .int .u8 (b2.toNat : Int), .int .u8 (b3.toNat : Int), .int .u8 (b4.toNat : Int), .int .u8 (b5.toNat : Int), .int .i64 kind, .slice A n cap] 25)).alloc (.cells #[.int .u8 (a0.toNat : Int), .int .u8 (a1.toNat : Int), .int .u8 (a2.toNat : Int), .int .u8 (a3.toNat : Int), .int .u8 (a4.toNat : Int), .int .u8 (a5.toNat : Int), .int .u8 (b0.toNat : Int), .int .u8 (b1.toNat : Int), .int .u8 (b2.toNat : Int), .int .u8 (b3.toNat : Int), .int .u8 (b4.toNat : Int), .int .u8 (b5.toNat : Int), .int .i64 kind, .slice B m dap] 30))
  have s2 := run_str Try.underlying22 Try.underlying5 Try.underlying9 ((hg.alloc (.cells #[.int .u8 (a0.toNat : Int), .int .u8 (a1.toNat : Int), .int .u8 (a2.toNat : Int), .int .u8 (a3.toNat : Int), .int .u8 (a4.toNat : Int), .int .u8 (a5.toNat : Int), .int .u8 (b0.toNat : Int), .int .u8 (b1.toNat : Int), .int .u8 (b2.toNat : Int), .int .u8 (b3.toNat : Int), .int .u8 (b4.toNat : Int), .int .u8 (b5.toNat : Int), .int .i64 kind, .slice A n cap] 25)).alloc (.cells #[.int .u8 (a0.toNat : Int), .int .u8 (a1.toNat : Int), .int .u8 (a2.toNat : Int), .int .u8 (a3.toNat : Int), .int .u8 (a4.toNat : Int), .int .u8 (a5.toNat : Int), .int .u8 (b0.toNat : Int), .int .u8 (b1.toNat : Int), .int .u8 (b2.toNat : Int), .int .u8 (b3.toNat : Int), .int .u8 (b4.toNat : Int), .int .u8 (b5.toNat : Int), .int .i64 kind, .slice B m dap] 30))
  clear hf hg
  dsimp only [Frm.val, Frm.cells, Mac.val, Mac.cells, List.cons_append, List.nil_append] at *
  go_enter Try.func13, Try.ntmps13
  go_wp2_with fail
  go_ret
  exact ⟨rfl, below_alloc' (below_alloc _ _) _⟩
end Go.Proofs.Ytefpfjdfkecjkaa
