/- One that waits is let go: the walk. -/
import Derived.Test.YtbjiicnagfeciaaPtB
namespace Go.Proofs.Ytbjiicnagfeciaa
open Go Go.RowKit
attribute [local go_sem ↓] Go.wp_at_zero Go.wp_at_succ
set_option maxRecDepth 100000

set_option maxHeartbeats 2000000 in
theorem lose_at (base g : Nat) (L : List WIt) (m : Nat) (vr : Value) (gM : Nat) (f : Value → Option Nat) (F : Nat → Prop) (x : WIt) (hx : x ∈ L) (w : World) (h : PtAt w base g L m vr gM f F) :
    Calls Try.prog 37 #[.pointer (some ⟨g, 0, none⟩), ptrV (some x.g)] w fun e w' => (∃ u, e = .returned u) ∧ ∃ vr' f', PtAt w' base g (L.filter fun y => !decide (y.w.k = x.w.k)) m vr' gM f' F ∧ Frame F w w' := by
  have H := hid h
  have K1 := hid (h.keep (below_alloc w (.cells #[.pointer (some ⟨x.g, 0, none⟩)] 88)))
  have hbx := Blk.new w 88 #[.pointer (some ⟨x.g, 0, none⟩)]
  have Hbx := hid hbx
  obtain ⟨kl, hkl⟩ := pkey_of x.w.k (h.ok.it x.w (List.mem_map_of_mem hx)).key
  have Hkl := hid hkl
  have c1 : (w.alloc (.cells #[.pointer (some ⟨x.g, 0, none⟩)] 88)).cell? ⟨g, 1, none⟩ = some (.map (some gM)) := K1.out.tab.cell 1
  have c0 : (w.alloc (.cells #[.pointer (some ⟨x.g, 0, none⟩)] 88)).cell? ⟨g, 0, none⟩ = some vr := K1.out.tab.cell 0
  have cb : (w.alloc (.cells #[.pointer (some ⟨x.g, 0, none⟩)] 88)).cell? ⟨w.heap.size, 0, none⟩ = some (.pointer (some ⟨x.g, 0, none⟩)) := hbx.cell 0
  have hxb := (K1.out.it x hx).blk
  have Hxb := hid hxb
  have hkv : x.w.k.val = .agg #[.int .u32 (x.w.k.src : Int), .int .u32 (x.w.k.dst : Int), .int .i64 x.w.k.proto, .int .i64 x.w.k.id] := rfl
  have x0 : (w.alloc (.cells #[.pointer (some ⟨x.g, 0, none⟩)] 88)).cell? ⟨x.g, 0, none⟩ = some (.int .u32 (x.w.k.src : Int)) := hxb.cell 0
  have x1 : (w.alloc (.cells #[.pointer (some ⟨x.g, 0, none⟩)] 88)).cell? ⟨x.g, 1, none⟩ = some (.int .u32 (x.w.k.dst : Int)) := hxb.cell 1
  have x2 : (w.alloc (.cells #[.pointer (some ⟨x.g, 0, none⟩)] 88)).cell? ⟨x.g, 2, none⟩ = some (.int .i64 x.w.k.proto) := hxb.cell 2
  have x3 : (w.alloc (.cells #[.pointer (some ⟨x.g, 0, none⟩)] 88)).cell? ⟨x.g, 3, none⟩ = some (.int .i64 x.w.k.id) := hxb.cell 3
  have hng : g ≠ gM := (K1.out.map.ne K1.out.tab).symm
  have hnb : w.heap.size ≠ gM := (K1.out.map.ne hbx).symm
  have hnx : x.g ≠ gM := (K1.out.map.ne hxb).symm
  have Hn := hid (And.intro hng (And.intro hnb hnx))
  have eg : ∀ args w, (callFunc 51 args).run Try.prog w = .ok (.enter 51 args) w := enters_of Try.func51 (by kernel_rfl) rfl
  obtain ⟨kv, hkv2⟩ : ∃ kv, x.w.k.val = kv := ⟨_, rfl⟩
  have HX := hid hx
  clear h hbx hkl hxb hng hnb hnx hx hkv2
  unfold ptrV
  go_enter Try.func37, Try.ntmps37
  go_upto_region 1 with (fail)
  go_region_held3 (fun wy => wy.cell? ⟨g, 1, none⟩ = some (.map (some gM)) ∧ wy.cell? ⟨w.heap.size, 0, none⟩ = some (.pointer (some ⟨x.g, 0, none⟩)) ∧ wy.cell? ⟨x.g, 0, none⟩ = some (.int .u32 (x.w.k.src : Int)) ∧ wy.cell? ⟨x.g, 1, none⟩ = some (.int .u32 (x.w.k.dst : Int)) ∧ wy.cell? ⟨x.g, 2, none⟩ = some (.int .i64 x.w.k.proto) ∧ wy.cell? ⟨x.g, 3, none⟩ = some (.int .i64 x.w.k.id)) (first | exact ⟨c1, cb, x0, x1, x2, x3⟩ | exact HS4.out) (first
    | (refine step_delete (by rfl) _ _ 81 88 (by rfl) pkeyed Try.underlying81 (by rfl) (by first | exact K1.out.map | exact K1.out.map.drew) x.w.k.val kl (by rfl) Hkl.out ?_; intro w4 hm4 hg4; have Hm4 := hid hm4; have Hg4 := hid (show (w.alloc (.cells #[.pointer (some ⟨x.g, 0, none⟩)] 88)).grownBy w4 (some gM) from by first | exact hg4 | exact grown_trans (grown_drew _ _) hg4); have HS4 := hid (show w4.cell? ⟨g, 1, none⟩ = some (.map (some gM)) ∧ w4.cell? ⟨w.heap.size, 0, none⟩ = some (.pointer (some ⟨x.g, 0, none⟩)) ∧ w4.cell? ⟨x.g, 0, none⟩ = some (.int .u32 (x.w.k.src : Int)) ∧ w4.cell? ⟨x.g, 1, none⟩ = some (.int .u32 (x.w.k.dst : Int)) ∧ w4.cell? ⟨x.g, 2, none⟩ = some (.int .i64 x.w.k.proto) ∧ w4.cell? ⟨x.g, 3, none⟩ = some (.int .i64 x.w.k.id) from ⟨cell_grown Hg4.out Hn.out.1 c1, cell_grown Hg4.out Hn.out.2.1 cb, cell_grown Hg4.out Hn.out.2.2 x0, cell_grown Hg4.out Hn.out.2.2 x1, cell_grown Hg4.out Hn.out.2.2 x2, cell_grown Hg4.out Hn.out.2.2 x3⟩); clear hm4 hg4)
    | fail)
  have tab4 := K1.out.tab.grown Hg4.out (fun e => Hn.out.1 (by injection e))
  have its4 : ∀ y ∈ L, ItAt w4 base y F := fun y hy => (K1.out.it y hy).other (frame_one Hg4.out) (map_types K1.out.map)
  have row4 : RowAtS w4 base 88 1 vr L.length (L.map WIt.ptr) := K1.out.row.same fun k hk => Hg4.out.block k (K1.out.row.lt hk).2 (fun e => by
    injection e with e
    subst e
    obtain ⟨cur, hc⟩ := K1.out.row.blk hk
    exact K1.out.map.ne hc rfl)
  have c0' : w4.cell? ⟨g, 0, none⟩ = some vr := cell_grown Hg4.out Hn.out.1 c0
  have hnr : vr.ownBlock ≠ some w.heap.size := fun e => by have := (H.out.flt _ (H.out.fr _ e)).2; omega
  have bx4 : Blk w4 w.heap.size 88 [.pointer (some ⟨x.g, 0, none⟩)] := Hbx.out.grown Hg4.out (fun e => Hn.out.2.1 (by injection e))
  have hdel := delf_any 51 #[.pointer (some ⟨w.heap.size, 0, none⟩)] eg base vr (L.map WIt.ptr) (isK L x.w.k) w4 row4.toAt (by intro u hu; obtain ⟨y, _, rfl⟩ := List.mem_map.1 hu; rfl) (by
    intro wx hg u hu
    obtain ⟨y, hy, rfl⟩ := List.mem_map.1 hu
    have hgx := ((its4 x HX.out).rowed row4 hg (by decide)).blk
    have hgy := ((its4 y hy).rowed row4 hg (by decide)).blk
    have := isKey_any y.g w.heap.size x.g y.w.k x.w.k _ _ _ _ _ _ wx hgy hgx ((bx4.grown hg (fun e => hnr e.symm)).cell 0)
    rw [isK_at H.out.apart hy]
    exact this)
  rw [filter_isK H.out.apart] at hdel
  have HD := hid hdel
  have T4 := hid tab4
  have I4 := hid its4
  have R4 := hid row4
  clear hdel bx4 hnr row4 its4 tab4 c0 c1 cb x0 x1 x2 x3 eg HS4
  go_wp2_with (go_at_call 50; refine HD.out.mono ?_; rintro e w2 ⟨v2, rfl, hrow, hg2, hv2⟩; obtain ⟨A2, cap2, rfl⟩ := hrow.slice; have tab2 := T4.out.grown hg2 (fun e => (RowAtS.ne R4.out T4.out (by decide)) e.symm); have c8b : w2.cell? ⟨g, 0, none⟩ = some vr := tab2.cell 0; have z8b := tab2.frozen 0; have Hrow := hid hrow; have Hg2 := hid hg2; have Hv2 := hid hv2; have Tab2 := hid tab2; clear hrow hg2 hv2 tab2)
  go_end0
  have hgs := grown_set w2 g 0 (.slice A2 (L.filter fun y => !decide (y.w.k = x.w.k)).length cap2)
  have hrow := Hrow.out.toS
  simp only [List.length_map] at hrow
  have hlw : (w.alloc (.cells #[.pointer (some ⟨x.g, 0, none⟩)] 88)).heap.size = w.heap.size + 1 := by simp
  have hfrv : ∀ k, (Value.slice A2 (L.filter fun y => !decide (y.w.k = x.w.k)).length cap2).ownBlock = some k → F k := fun k hk => H.out.fr k (by
    rw [← Hv2.out, ← hk]
    simp only [List.length_map])
  have hfrm : Frame F w (w2.setCell ⟨g, 0, none⟩ (.slice A2 (L.filter fun y => !decide (y.w.k = x.w.k)).length cap2)) :=
    (((Below.frameF (below_alloc w (.cells #[.pointer (some ⟨x.g, 0, none⟩)] 88)) F).trans (frame_grown Hg4.out (F := F) (fun k hk => by injection hk with hk; subst hk; exact H.out.fM)) (fun _ _ h => h)).trans (frame_grown Hg2.out (F := F) (fun k hk => H.out.fr k hk)) (fun _ _ h => h)).trans (frame_grown hgs (F := F) (fun k hk => by injection hk with hk; subst hk; exact H.out.fg)) (fun _ _ h => h)
  refine ⟨⟨_, rfl⟩, .slice A2 (L.filter fun y => !decide (y.w.k = x.w.k)).length cap2, upd f x.w.k.val none, ?_, hfrm⟩
  refine ⟨Tab2.out.set_ 0 _, hrow.same (fun k hk => hgs.block k (hrow.lt hk).2 (fun e => ?_)), ?_, fun y hy => ?_, H.out.apart.sublist List.filter_sublist, fun y hy => ?_, fun k hk => ?_, ?_, fun y hy => H.out.few y (List.mem_filter.1 hy).1, H.out.fg, H.out.fM, hfrv, fun k hk => ⟨(H.out.flt k hk).1, Nat.lt_of_lt_of_le (H.out.flt k hk).2 hfrm.size⟩⟩
  · injection e with e
    subst e
    exact hrow.ne Tab2.out (by decide) hk
  · refine (Hm4.out.block (Hg2.out.block gM Hm4.out.lt (fun e => ?_))).block (hgs.block gM (Nat.lt_of_lt_of_le Hm4.out.lt Hg2.out.size) (fun e => Hn.out.1 (by injection e with e; exact e.symm)))
    obtain ⟨cur, hc⟩ := R4.out.blk e.symm
    exact Hm4.out.ne hc rfl
  · exact ((I4.out y (List.mem_filter.1 hy).1).rowed R4.out Hg2.out (by decide)).other (frame_one hgs) (blk_types Tab2.out (by decide))
  · obtain ⟨hy1, hy2⟩ := List.mem_filter.1 hy
    unfold upd
    rw [if_neg (fun e => by simp [PKey.val_inj e] at hy2)]
    exact H.out.hit y hy1
  · unfold upd
    by_cases e : k = x.w.k
    · rw [if_pos (by rw [e])]
    · rw [if_neg (fun q => e (PKey.val_inj q))]
      refine H.out.miss k fun y hy q => ?_
      exact hk y (List.mem_filter.2 ⟨hy, by simp [q, e]⟩) q
  · have := H.out.ok.lose x.w.k
    unfold pLose at this
    rw [List.filter_map] at this
    exact this
end Go.Proofs.Ytbjiicnagfeciaa
