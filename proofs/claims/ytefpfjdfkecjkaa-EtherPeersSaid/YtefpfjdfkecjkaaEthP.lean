/- The document's Ask. -/
import Derived.Test.YtefpfjdfkecjkaaEthO
namespace Go.Proofs.Ytefpfjdfkecjkaa
open Go Go.RowKit
attribute [local go_sem ↓] Go.wp_at_zero Go.wp_at_succ
set_option maxRecDepth 100000

theorem keep7 {w w' : World} (hb : Below w.heap.size w w') {g : Nat} {x0 x1 x2 x3 x4 x5 x6 : Value}
    (h : w.cell? ⟨g, 0, none⟩ = some x0 ∧ w.cell? ⟨g, 1, none⟩ = some x1 ∧ w.cell? ⟨g, 2, none⟩ = some x2 ∧ w.cell? ⟨g, 3, none⟩ = some x3 ∧ w.cell? ⟨g, 4, none⟩ = some x4 ∧ w.cell? ⟨g, 5, none⟩ = some x5 ∧ w.cell? ⟨g, 6, none⟩ = some x6) :
    w'.cell? ⟨g, 0, none⟩ = some x0 ∧ w'.cell? ⟨g, 1, none⟩ = some x1 ∧ w'.cell? ⟨g, 2, none⟩ = some x2 ∧ w'.cell? ⟨g, 3, none⟩ = some x3 ∧ w'.cell? ⟨g, 4, none⟩ = some x4 ∧ w'.cell? ⟨g, 5, none⟩ = some x5 ∧ w'.cell? ⟨g, 6, none⟩ = some x6 := by
  obtain ⟨h0, h1, h2, h3, h4, h5, h6⟩ := h
  exact ⟨cell_below hb h0, cell_below hb h1, cell_below hb h2, cell_below hb h3, cell_below hb h4, cell_below hb h5, cell_below hb h6⟩
theorem RPAt.cells {w : World} {base gX : Nat} {a0 a1 a2 a3 a4 a5 : UInt8} {ip : Nat} {l : List Peer} {vL : Value} {FX : Nat → Prop} (h : RPAt w base gX ⟨a0, a1, a2, a3, a4, a5⟩ ip l vL FX) :
    w.cell? ⟨gX, 0, none⟩ = some (.int .u8 (a0.toNat : Int)) ∧ w.cell? ⟨gX, 1, none⟩ = some (.int .u8 (a1.toNat : Int)) ∧ w.cell? ⟨gX, 2, none⟩ = some (.int .u8 (a2.toNat : Int)) ∧ w.cell? ⟨gX, 3, none⟩ = some (.int .u8 (a3.toNat : Int)) ∧ w.cell? ⟨gX, 4, none⟩ = some (.int .u8 (a4.toNat : Int)) ∧ w.cell? ⟨gX, 5, none⟩ = some (.int .u8 (a5.toNat : Int)) ∧ w.cell? ⟨gX, 6, none⟩ = some (.int .u32 (ip : Int)) :=
  ⟨h.tab.cell 0, h.tab.cell 1, h.tab.cell 2, h.tab.cell 3, h.tab.cell 4, h.tab.cell 5, h.tab.cell 6⟩
set_option maxHeartbeats 4000000 in
theorem rask_any (base gX : Nat) (mac : Mac) (ip : Nat) (hip : ip < 4294967296) (l : List Peer) (FX : Nat → Prop) (ti : Nat) (hti : ti < 4294967296) (w : World) (h : RPInv w base gX mac ip l FX) :
    Calls Try.prog 20 #[.pointer (some ⟨gX, 0, none⟩), .int .u32 (ti : Int)] w fun e w' => ∃ v', e = .returned v' ∧ OwnBs w' w.heap.size 5 v' (arpFrame .all 1 mac ip .zero ti) ∧ Below w.heap.size w w' := by
  obtain ⟨vL, h⟩ := h
  obtain ⟨a0, a1, a2, a3, a4, a5⟩ := mac
  have HC := hid h.cells
  have HA : ∀ wx, Calls Try.prog 36 #[.int .i64 1, .agg #[.int .u8 (a0.toNat : Int), .int .u8 (a1.toNat : Int), .int .u8 (a2.toNat : Int), .int .u8 (a3.toNat : Int), .int .u8 (a4.toNat : Int), .int .u8 (a5.toNat : Int)], .int .u32 (ip : Int), .agg #[.int .u8 0, .int .u8 0, .int .u8 0, .int .u8 0, .int .u8 0, .int .u8 0], .int .u32 (ti : Int)] wx fun e w' => ∃ v', e = .returned v' ∧ OwnBs w' wx.heap.size 5 v' (arpBody 1 ⟨a0, a1, a2, a3, a4, a5⟩ ip .zero ti) ∧ Below wx.heap.size wx w' := fun wx => rarp_any 1 (by decide) ⟨a0, a1, a2, a3, a4, a5⟩ ip hip .zero ti hti wx
  have HA := hid HA
  have hbl := arp_len 1 ⟨a0, a1, a2, a3, a4, a5⟩ ip .zero ti
  obtain ⟨B, hB⟩ : ∃ B, arpBody 1 ⟨a0, a1, a2, a3, a4, a5⟩ ip .zero ti = B := ⟨_, rfl⟩
  have hWr : ∀ (A : Option Addr) (cap : Nat) (wx : World), Bs wx (.slice A 28 cap) B → Calls Try.prog 11 #[.agg #[.int .u8 255, .int .u8 255, .int .u8 255, .int .u8 255, .int .u8 255, .int .u8 255, .int .u8 (a0.toNat : Int), .int .u8 (a1.toNat : Int), .int .u8 (a2.toNat : Int), .int .u8 (a3.toNat : Int), .int .u8 (a4.toNat : Int), .int .u8 (a5.toNat : Int), .int .i64 2054, .slice A 28 cap]] wx (WritePost ⟨.all, ⟨a0, a1, a2, a3, a4, a5⟩, 2054, B⟩ wx) := fun A cap wx hb => rwrite_any ⟨.all, ⟨a0, a1, a2, a3, a4, a5⟩, 2054, B⟩ A 28 cap wx hb
  have hcode := arp_code .all 1 ⟨a0, a1, a2, a3, a4, a5⟩ ip .zero ti
  have HFr := hid (show arpFrame .all 1 ⟨a0, a1, a2, a3, a4, a5⟩ ip .zero ti = (eWrite ⟨.all, ⟨a0, a1, a2, a3, a4, a5⟩, 2054, B⟩).1 by unfold arpFrame; rw [hB])
  rw [hB] at HA hbl hcode
  have HWr := hid hWr
  have Hbl := hid hbl
  have Hcode := hid hcode
  clear hip hti hWr hB hbl hcode h
  go_enter Try.func20, Try.ntmps20
  go_upto_region 1 with fail
  go_region_held3 (fun wy => wy.cell? ⟨gX, 0, none⟩ = some (.int .u8 (a0.toNat : Int)) ∧ wy.cell? ⟨gX, 1, none⟩ = some (.int .u8 (a1.toNat : Int)) ∧ wy.cell? ⟨gX, 2, none⟩ = some (.int .u8 (a2.toNat : Int)) ∧ wy.cell? ⟨gX, 3, none⟩ = some (.int .u8 (a3.toNat : Int)) ∧ wy.cell? ⟨gX, 4, none⟩ = some (.int .u8 (a4.toNat : Int)) ∧ wy.cell? ⟨gX, 5, none⟩ = some (.int .u8 (a5.toNat : Int)) ∧ wy.cell? ⟨gX, 6, none⟩ = some (.int .u32 (ip : Int))) (first | exact keep7 Hb2.out HC.out | exact keep7 ((Hb2.out).drew) HC.out | exact keep7 Hb1.out HC.out | exact keep7 ((Hb1.out).drew) HC.out | exact keep7 (below_drew _) HC.out | exact HC.out) (first
    | (go_at_call 36; (with_reducible refine (HA.out _).mono ?_); rintro e w1 ⟨v1, rfl, hown, hb⟩; have Hb1 := hid (show Below w.heap.size w w1 from by first | exact hb | exact first_below hb); obtain ⟨A1, cap1, rfl⟩ := slice_len hown.bs Hbl.out; have HB1 := hid hown.bs; clear hown hb)
    | (go_at_call 11; (with_reducible refine (HWr.out A1 cap1 _ (by first | exact HB1.out | exact HB1.out.drew)).mono ?_); rintro e w2 ⟨v2, rfl, hown, hb⟩; have Hb2 := hid (show Below w.heap.size w w2 from Hb1.out.trans ((show Below w1.heap.size w1 w2 from by first | exact hb | exact first_below hb).mono Hb1.out.size)); have O2 := hid (show OwnBs w2 w.heap.size 5 v2 _ from hown.mono (by first | exact Hb1.out.size)); clear hown hb)
    | fail)
  all_goals
    go_wp2_with fail
    go_ret
    rw [HFr.out]
    exact ⟨_, rfl, O2.out, Hb2.out⟩
end Go.Proofs.Ytefpfjdfkecjkaa
