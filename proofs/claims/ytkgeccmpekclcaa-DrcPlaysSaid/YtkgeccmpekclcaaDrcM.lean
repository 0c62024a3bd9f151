/- A table's Begin: a full table lets the first call go that is done. -/
import Derived.Test.YtkgeccmpekclcaaDrcL
namespace Go.Proofs.Ytkgeccmpekclcaa
open Go Go.RowKit
attribute [local go_sem ↓] Go.wp_at_zero Go.wp_at_succ
set_option maxRecDepth 100000

theorem map_cell {P : Program} {kt : TypeId} {w w' : World} {b n : Nat} {f : Value → Option Nat} (hm : MapIs P kt w b n f) (h : w.grownBy w' (some b)) {q : Addr} {x : Value} (hx : w.cell? q = some x) : w'.cell? q = some x := by
  have hlt := World.block_lt_of_cell? w _ hx
  have hne : q.block ≠ b := by
    intro e
    obtain ⟨es, clock, hb⟩ := hm.isMap
    simp [World.cell?, e, hb] at hx
  have := h.block q.block hlt (fun e => by injection e with e; exact hne e)
  simpa [World.cell?, this] using hx
set_option maxHeartbeats 4000000 in
theorem begin_drop (base gT n m : Nat) (l : List DCall) (k : DKey) (w : World) (h : TabInv w base gT n m l) (hb : base ≤ w.heap.size) (hk : k.Ok) (hc : l.find? (fun c => decide (c.key = k)) = none) (hn : l.length = n) (hn2 : n ≤ 256) (hm : m < 100000) (i : Nat) (hd : fidx (doneAt l) l.length = some i) :
    Calls Try.prog 9 #[ptrV (some gT), k.val] w (BeginPost base gT n m l k w) := by
  have Hr := hid (show drcBegin n l k = ((1, []), l.eraseIdx i ++ [⟨k, false, []⟩]) by unfold drcBegin; rw [hc]; simp only [hn, if_true]; rw [← hn, hd])
  obtain ⟨L, vr, gM, f, rfl, h⟩ := h
  rw [List.length_map] at hn hd
  subst hn
  obtain ⟨hi, _⟩ := fidx_some hd
  obtain ⟨kl, hkl⟩ : ∃ kl, keyOf Try.prog 33 k.val = some kl := dkey_of k hk
  have hf : f k.val = none := h.miss k (find_miss hc)
  have Hmiss := hid (find_miss hc)
  have K1 := hid (h.keep (below_alloc w (.cells k.cells.toArray 33)))
  have hkb := Blk.new w 33 k.cells.toArray
  have hlook : ∀ q, (Instr.lookup 59 (.map (some gM)) k.val false).run Try.prog ((w.alloc (.cells k.cells.toArray 33)).drewN q) = .ok (ptrV none) ((w.alloc (.cells k.cells.toArray 33)).drewN q) := fun q => by
    rw [(K1.out.map.drewN q).look dkeyed Try.underlying59 (ptrzero _) hkl, hf]
  obtain ⟨_, A, cap, hv, _, _, hcr⟩ := RowN.of_own h.row
  rw [List.length_map] at hv
  obtain ⟨gr, off, rfl, hcri⟩ : ∃ gr off, A = some ⟨gr, off, none⟩ ∧ w.cell? ⟨gr, off + i, none⟩ = some (ptrV (some L[i].g)) := by
    rcases hcr with h0 | ⟨gr, off, rfl, hc⟩
    · rw [List.length_map] at h0; omega
    · exact ⟨gr, off, rfl, hc i _ (by simp [hi, DIt.ptr])⟩
  subst hv
  have hcri := cell_below (below_alloc w (.cells k.cells.toArray 33)) hcri
  have hc2 : (w.alloc (.cells k.cells.toArray 33)).cell? ⟨gT, 2, none⟩ = some (.map (some gM)) := K1.out.tab.cell 2
  obtain ⟨gi, hgi⟩ : ∃ g, L[i].g = g := ⟨_, rfl⟩
  rw [hgi] at hcri
  unfold ptrV at hcri
  have Hgi := hid hgi
  obtain ⟨kx, hkx⟩ : ∃ g, L[i].c.key = g := ⟨_, rfl⟩
  have Hkx := hid hkx
  obtain ⟨klx, hklx⟩ : ∃ kl, keyOf Try.prog 33 kx.val = some kl := dkey_of kx (by rw [← hkx]; exact h.oks _ (List.getElem_mem hi))
  have Hb := hid hb
  have Hk := hid hk
  have Hkl := hid hkl
  have Hklx := hid hklx
  have Hd := hid hd
  have hiI : (i : Int) < (L.length : Int) := by omega
  have hiN : ¬ (i : Int) < 0 := by omega
  have hi1 : IntKind.i64.wrap ((i : Int) + 1) = (i : Int) + 1 := IntWalk.i64_in _ (by omega)
  clear hkl hf hc hk hb hd hcr hgi hkx hklx
  obtain ⟨k1, k2, k3, k4, k5⟩ := k
  obtain ⟨x1, x2, x3, x4, x5⟩ := kx
  dsimp only [DKey.val, DKey.cells] at *
  unfold ptrV at hlook ⊢
  go_enter Try.func9, Try.ntmps9
  go_upto_region 1 with (fail)
  go_quiet (fail)
  have Kq := hid (K1.out.drewN nq)
  have HBq := hid (below_drewN (below_alloc w (.cells #[.int .u32 (k1 : Int), .int .i64 k2, .int .u32 (k3 : Int), .int .u32 (k4 : Int), .int .u32 (k5 : Int)] 33)) nq)
  have hkq := hkb.drewN nq
  have hcri : ((w.alloc (.cells #[.int .u32 (k1 : Int), .int .i64 k2, .int .u32 (k3 : Int), .int .u32 (k4 : Int), .int .u32 (k5 : Int)] 33)).drewN nq).cell? ⟨gr, off + i, none⟩ = some (.pointer (some ⟨gi, 0, none⟩)) := hcri
  generalize (w.alloc (.cells #[.int .u32 (k1 : Int), .int .i64 k2, .int .u32 (k3 : Int), .int .u32 (k4 : Int), .int .u32 (k5 : Int)] 33)).drewN nq = wq at Kq HBq hkq hcri ⊢
  have c0 := Kq.out.tab.cell 0
  have c1 := Kq.out.tab.cell 1
  clear hc2 hlook hkb
  go_upto_region 6 with (fail)
  go_quiet (fail)
  have HI := hid (idx1_any (Kq.out.drewN nq))
  rw [Hd.out] at HI
  have HB2 := hid (below_drewN HBq.out nq)
  have K2 := hid (Kq.out.drewN nq)
  have Hkr := hid (hkq.drewN nq)
  have c1 : (wq.drewN nq).cell? ⟨gT, 1, none⟩ = some (.slice (some ⟨gr, off, none⟩) L.length cap) := c1
  have hcri : (wq.drewN nq).cell? ⟨gr, off + i, none⟩ = some (.pointer (some ⟨gi, 0, none⟩)) := hcri
  clear c0 hkq
  generalize wq.drewN nq = wr at K2 HB2 Hkr HI c1 hcri ⊢
  go_upto_region 10 with (go_at_call 18; refine HI.out.mono ?_; rintro e w' ⟨rfl, q, rfl⟩; unfold idxI)
  have K3 := hid (K2.out.drewN q)
  have HB3 := hid (below_drewN HB2.out q)
  have Hk3 := hid (Hkr.out.drewN q)
  have c1 : (wr.drewN q).cell? ⟨gT, 1, none⟩ = some (.slice (some ⟨gr, off, none⟩) L.length cap) := c1
  have hcri : (wr.drewN q).cell? ⟨gr, off + i, none⟩ = some (.pointer (some ⟨gi, 0, none⟩)) := hcri
  generalize wr.drewN q = ws at K3 HB3 Hk3 c1 hcri ⊢
  clear HI
  have c2 : ws.cell? ⟨gT, 2, none⟩ = some (.map (some gM)) := K3.out.tab.cell 2
  have hxb := (K3.out.it L[i] (List.getElem_mem hi)).1
  rw [Hgi.out, Hkx.out] at hxb
  have y0 : ws.cell? ⟨gi, 0, none⟩ = some (.int .u32 (x1 : Int)) := hxb.cell 0
  have y1 : ws.cell? ⟨gi, 1, none⟩ = some (.int .i64 x2) := hxb.cell 1
  have y2 : ws.cell? ⟨gi, 2, none⟩ = some (.int .u32 (x3 : Int)) := hxb.cell 2
  have y3 : ws.cell? ⟨gi, 3, none⟩ = some (.int .u32 (x4 : Int)) := hxb.cell 3
  have y4 : ws.cell? ⟨gi, 4, none⟩ = some (.int .u32 (x5 : Int)) := hxb.cell 4
  clear hxb
  go_region_held3 (fun wr => wr.cell? ⟨gT, 2, none⟩ = some (.map (some gM)) ∧ wr.cell? ⟨gT, 1, none⟩ = some (.slice (some ⟨gr, off, none⟩) L.length cap) ∧ wr.cell? ⟨gr, off + i, none⟩ = some (.pointer (some ⟨gi, 0, none⟩)) ∧ wr.cell? ⟨gi, 0, none⟩ = some (.int .u32 (x1 : Int)) ∧ wr.cell? ⟨gi, 1, none⟩ = some (.int .i64 x2) ∧ wr.cell? ⟨gi, 2, none⟩ = some (.int .u32 (x3 : Int)) ∧ wr.cell? ⟨gi, 3, none⟩ = some (.int .u32 (x4 : Int)) ∧ wr.cell? ⟨gi, 4, none⟩ = some (.int .u32 (x5 : Int))) (first | exact ⟨d2, d1, map_cell K3.out.map Hg4.out hcri, map_cell K3.out.map Hg4.out y0, map_cell K3.out.map Hg4.out y1, map_cell K3.out.map Hg4.out y2, map_cell K3.out.map Hg4.out y3, map_cell K3.out.map Hg4.out y4⟩ | exact ⟨c2, c1, hcri, y0, y1, y2, y3, y4⟩) (first
    | (refine step_delete (by rfl) _ _ 59 63 (by rfl) dkeyed Try.underlying59 (by rfl) K3.out.map.drew (.agg #[.int .u32 (x1 : Int), .int .i64 x2, .int .u32 (x3 : Int), .int .u32 (x4 : Int), .int .u32 (x5 : Int)]) klx (by rfl) Hklx.out ?_; intro w4 hm4 hg4; have kt := map_keepsT K3.out.map.drew hg4 (fun _ => True); have tab4 := kt.blk K3.out.tab.drew trivial; have d2 := tab4.cell 2; have d1 := tab4.cell 1; have z1 := tab4.frozen 1; have Hm4 := hid hm4; have Hg4 := hid (show ws.grownBy w4 (some gM) from grown_trans (grown_drew ws _) hg4); have Kt4 := hid kt; have Tab4 := hid tab4; clear hm4 hg4 kt tab4)
    | fail)
  have hone : ∀ u ∈ L.map DIt.ptr, u.oneCell' = true := by
    intro u hu
    obtain ⟨x, _, rfl⟩ := List.mem_map.1 hu
    rfl
  have hrow4 := Kt4.out.row K3.out.row.drew trivial
  have HD := hid (delRow_any (.slice (some ⟨gr, off, none⟩) L.length cap) (L.map DIt.ptr) base i w4 hrow4 (by simpa using hi) hone)
  go_upto_region 12 with (go_at_call 20; refine HD.out.mono ?_; rintro e w5 ⟨v5, gr5, ho5, hb5, hl5, ⟨xs5, hx5⟩, rfl, hrow5, hg5⟩; obtain ⟨n1, hn1⟩ : ∃ n, ((L.map DIt.ptr).eraseIdx i).length = n := ⟨_, rfl⟩; rw [hn1] at hrow5; obtain ⟨_, A5, cap5, rfl, _⟩ := RowN.of_own hrow5; have Hn1 := hid hn1; clear hn1; have k5t := store_keepsT hg5 hx5; have tab5 := k5t.blk Tab4.out (by decide); have c15 := tab5.cell 1; have z15 := tab5.frozen 1; have Tab5 := hid tab5; have K5t := hid k5t; have Hrow5 := hid hrow5; have Hg5 := hid hg5; have Hx5 := hid hx5; clear ho5 hx5 hrow5 hg5 k5t tab5)
  have hgu : w5.grownBy (w5.setCell ⟨gT, 1, none⟩ (.slice A5 n1 cap5)) (some gT) := grown_set _ _ _ _
  have Ku := store_keepsT hgu Tab5.out
  have its4 : Its w4 base L := Its.keeps (w := ws.drew) (fun x hx => K3.out.it x hx) Kt4.out trivial trivial
  have itsu := (its4.keeps K5t.out (by decide) (by decide)).keeps Ku (by decide) (by decide)
  have mapu := ((Hm4.out.store Hx5.out Hg5.out).store Tab5.out hgu)
  have rowu := own_store Hrow5.out Tab5.out (by decide) hgu
  have Kn := hid (K3.out.erase i hi (Tab5.out.set_ 1 (.slice A5 n1 cap5)) (by rw [Hn1.out]; exact rowu) itsu (by rw [Hkx.out]; exact mapu))
  have keyu : Blk (w5.setCell ⟨gT, 1, none⟩ (.slice A5 n1 cap5)) w.heap.size 33 #[.int .u32 (k1 : Int), .int .i64 k2, .int .u32 (k3 : Int), .int .u32 (k4 : Int), .int .u32 (k5 : Int)].toList := Ku.blk (K5t.out.blk (Kt4.out.blk Hk3.out.drew trivial) (by decide)) (by decide)
  have hs3 := HB3.out.size
  have HB4 : Below base w w4 := below_own (HB3.out.mono Hb.out) Hg4.out K3.out.mapB (Nat.le_trans Hb.out hs3)
  have HB5 : Below base w w5 := below_own HB4 Hg5.out hb5 (Nat.le_trans Hb.out HB4.size)
  have HBu := hid (below_own HB5 hgu K3.out.tabB (Nat.le_trans Hb.out HB5.size))
  have Kall : KeepsT ws (w5.setCell ⟨gT, 1, none⟩ (.slice A5 n1 cap5)) (fun t => t ≠ 63 ∧ t ≠ 62) := ((KeepsT.weak (a := ws.drew) Kt4.out (fun _ _ => trivial)).trans (K5t.out.weak (fun _ h => h.1))).trans (Ku.weak (fun _ h => h.2))
  have Spu := hid ((Below.spares HB3.out).trans (Spares.of (HBu.out.os.trans HB3.out.os.symm) (HBu.out.tape.trans HB3.out.tape.symm) (HBu.out.output.trans HB3.out.output.symm) (Nat.le_trans (Nat.le_trans Hg4.out.size Hg5.out.size) hgu.size) Kall (fun t h1 h2 _ => ⟨h2, h1⟩)))
  have Hkeyu := hid keyu
  have Hn1b := hid (show n1 = (L.eraseIdx i).length by rw [← Hn1.out, List.length_eraseIdx, List.length_eraseIdx, List.length_map])
  have Hlc := hid (show (L.map DIt.c).eraseIdx i = (L.eraseIdx i).map DIt.c by rw [List.eraseIdx_eq_take_drop_succ, List.eraseIdx_eq_take_drop_succ, List.map_append, List.map_take, List.map_drop])
  have Hle := hid (show (L.eraseIdx i).length ≤ 256 by rw [List.length_eraseIdx]; split <;> omega)
  have Hmiss2 := hid (show ∀ x ∈ L.eraseIdx i, x.c.key ≠ ⟨k1, k2, k3, k4, k5⟩ from fun x hx => Hmiss.out x (mem_erase hi K3.out.keys hx).1)
  have Hsz := hid (show w.heap.size ≤ (w5.setCell ⟨gT, 1, none⟩ (.slice A5 n1 cap5)).heap.size from HBu.out.size)
  clear hgu Ku its4 itsu mapu rowu keyu hs3 HB4 HB5 Kall c15 z15 Tab5 K5t Hrow5 Hg5 Hx5 HD hrow4 hone Hm4 Hg4 Kt4 Tab4 d2 d1 z1 K3 HB3 Hk3 c1 c2 hcri y0 y1 y2 y3 y4 K2 HB2 Hkr K1 Kq HBq
  generalize w5.setCell ⟨gT, 1, none⟩ (.slice A5 n1 cap5) = wr at *
  obtain ⟨L2, hL2⟩ : ∃ l, L.eraseIdx i = l := ⟨_, rfl⟩
  rw [hL2] at Kn Hn1b Hlc Hle Hmiss2
  obtain ⟨f2, hf2⟩ : ∃ g, upd f L[i].c.key.val none = g := ⟨_, rfl⟩
  rw [hf2] at Kn
  have hn1 := Hn1b.out
  have hle := Hle.out
  subst hn1
  clear hL2 hf2
  have c1 : wr.cell? ⟨gT, 1, none⟩ = some (.slice A5 L2.length cap5) := Kn.out.tab.cell 1
  have d0 := Hkeyu.out.cell 0
  have d1 := Hkeyu.out.cell 1
  have d2 := Hkeyu.out.cell 2
  have d3 := Hkeyu.out.cell 3
  have d4 := Hkeyu.out.cell 4
  have c1a := ((Kn.out.tab.alloc (.cells #[.int .u32 (k1 : Int), .int .i64 k2, .int .u32 (k3 : Int), .int .u32 (k4 : Int), .int .u32 (k5 : Int), .bool false, .slice none 0 0] 65))).cell 1
  go_upto_region 14 with ((with_reducible show wpList _ _ _ (Oper.mk (some 78) _ _ _ _ _ :: _) _ _); refine wpList_app _ rfl _ _ 60 rfl base 63 (.pointer none) 1 8 ptrok _ _ _ rfl (own_below Kn.out.row (below_alloc' (below_alloc wr _) _)) (.slice (some ⟨_, 0, none⟩) 1 1) 1 [ptrV (some wr.heap.size)] rfl (rowS_lit 1 _ 1 _ rfl (by simp) (by simp [maxLen])) (by simp [ptrV, Value.oneCell']) (by simp; omega) (by simp [maxLen]; omega) (by have := Hsz.out; have := Hb.out; simp; omega) ?_; intro v5 v6w hown5 hg5 hat5; clear hat5; rw [List.length_map] at hown5; obtain ⟨_, A6, cap6, rfl, _⟩ := RowN.of_own hown5; have hKs := app_keepsT (own_below Kn.out.row (below_alloc' (below_alloc wr (.cells #[.int .u32 (k1 : Int), .int .i64 k2, .int .u32 (k3 : Int), .int .u32 (k4 : Int), .int .u32 (k5 : Int), .bool false, .slice none 0 0] 65)) (.cells #[ptrV (some wr.heap.size)] 63))) hg5; have tab5 := hKs.blk ((Kn.out.tab.alloc (.cells #[.int .u32 (k1 : Int), .int .i64 k2, .int .u32 (k3 : Int), .int .u32 (k4 : Int), .int .u32 (k5 : Int), .bool false, .slice none 0 0] 65)).alloc (.cells #[ptrV (some wr.heap.size)] 63)) (by decide); have key5 := hKs.blk ((Hkeyu.out.alloc (.cells #[.int .u32 (k1 : Int), .int .i64 k2, .int .u32 (k3 : Int), .int .u32 (k4 : Int), .int .u32 (k5 : Int), .bool false, .slice none 0 0] 65)).alloc (.cells #[ptrV (some wr.heap.size)] 63)) (by decide); have c1b := tab5.cell 1; have z1b := tab5.frozen 1; have c2b := tab5.cell 2; have e0 := key5.cell 0; have e1 := key5.cell 1; have e2 := key5.cell 2; have e3 := key5.cell 3; have e4 := key5.cell 4; have HKs := hid hKs; have Hg5 := hid hg5; have Tab5 := hid tab5; have Hown5 := hid hown5; clear hKs hg5 tab5 key5 hown5)
  have hgt : v6w.grownBy (v6w.setCell ⟨gT, 1, none⟩ (.slice A6 (L2.length + 1) cap6)) (some gT) := grown_set _ _ _ _
  have Tabt := hid (Tab5.out.set_ 1 (.slice A6 (L2.length + 1) cap6))
  have Ka : KeepsT wr v6w (· ≠ 63) := (Below.keepsT (below_alloc' (below_alloc wr (.cells #[.int .u32 (k1 : Int), .int .i64 k2, .int .u32 (k3 : Int), .int .u32 (k4 : Int), .int .u32 (k5 : Int), .bool false, .slice none 0 0] 65)) (.cells #[ptrV (some wr.heap.size)] 63)) _).trans HKs.out
  have Kc := store_keepsT hgt Tab5.out
  have hrow2 := own_below Kn.out.row (below_alloc' (below_alloc wr (.cells #[.int .u32 (k1 : Int), .int .i64 k2, .int .u32 (k3 : Int), .int .u32 (k4 : Int), .int .u32 (k5 : Int), .bool false, .slice none 0 0] 65)) (.cells #[ptrV (some wr.heap.size)] 63))
  have hmt := ((Kn.out.map.keep (below_alloc' (below_alloc wr (.cells #[.int .u32 (k1 : Int), .int .i64 k2, .int .u32 (k3 : Int), .int .u32 (k4 : Int), .int .u32 (k5 : Int), .bool false, .slice none 0 0] 65)) (.cells #[ptrV (some wr.heap.size)] 63))).app hrow2 Hg5.out).store Tab5.out hgt
  have HB5 : Below base w v6w := ((HBu.out.trans ((below_alloc' (below_alloc wr (.cells #[.int .u32 (k1 : Int), .int .i64 k2, .int .u32 (k3 : Int), .int .u32 (k4 : Int), .int .u32 (k5 : Int), .bool false, .slice none 0 0] 65)) (.cells #[ptrV (some wr.heap.size)] 63)).mono (Nat.le_trans Hb.out Hsz.out))).grown Hg5.out (by have := Hsz.out; have := Hb.out; simp; omega) (fun k hk => (World.ownsRow.lt hrow2 k hk).1))
  have HBt := hid (below_own HB5 hgt Kn.out.tabB (Nat.le_trans Hb.out HB5.size))
  have hrowt := own_store Hown5.out Tab5.out (by decide) hgt
  have Ht := hid hrowt
  have hnew : Blk (v6w.setCell ⟨gT, 1, none⟩ (.slice A6 (L2.length + 1) cap6)) wr.heap.size 65 #[.int .u32 (k1 : Int), .int .i64 k2, .int .u32 (k3 : Int), .int .u32 (k4 : Int), .int .u32 (k5 : Int), .bool false, .slice none 0 0].toList := Kc.blk (HKs.out.blk ((Blk.new wr 65 #[.int .u32 (k1 : Int), .int .i64 k2, .int .u32 (k3 : Int), .int .u32 (k4 : Int), .int .u32 (k5 : Int), .bool false, .slice none 0 0]).alloc _) (by decide)) (by decide)
  have Hnew := hid hnew
  have Kt := hid ((Ka.weak (S' := fun t => t ≠ 63 ∧ t ≠ 62) (fun _ h => h.1)).trans (Kc.weak (fun _ h => h.2)))
  have c2t : (v6w.setCell ⟨gT, 1, none⟩ (.slice A6 (L2.length + 1) cap6)).cell? ⟨gT, 2, none⟩ = some (.map (some gM)) := Tabt.out.cell 2
  have keyt := Kc.blk (HKs.out.blk ((Hkeyu.out.alloc (.cells #[.int .u32 (k1 : Int), .int .i64 k2, .int .u32 (k3 : Int), .int .u32 (k4 : Int), .int .u32 (k5 : Int), .bool false, .slice none 0 0] 65)).alloc (.cells #[ptrV (some wr.heap.size)] 63)) (by decide)) (by decide)
  have Hmt := hid hmt
  clear c1b z1b c2b e0 e1 e2 e3 e4 HKs Hg5 Tab5 Hown5 hgt Ka Kc hrow2 hmt HB5 hrowt hnew c1 c1a d0 d1 d2 d3 d4
  generalize v6w.setCell ⟨gT, 1, none⟩ (.slice A6 (L2.length + 1) cap6) = wt at *
  have t0 := keyt.cell 0
  have t1 := keyt.cell 1
  have t2 := keyt.cell 2
  have t3 := keyt.cell 3
  have t4 := keyt.cell 4
  obtain ⟨w6, hrun, hm6, hg6⟩ := Hmt.out.drew.put dkeyed Try.underlying59 (by simp only [maxLen]; omega) Hkl.out wr.heap.size
  have Hm6 := hid hm6
  have Hg6 := hid hg6
  clear hm6 hg6 keyt
  unfold ptrV at hrun
  go_region_law (fail)
  all_goals
    go_wp2_with fail
    go_ret2
    unfold BeginPost
    rw [Hr.out]
    have Ke := map_keepsT Hmt.out.drew Hg6.out (fun t => t ≠ 63 ∧ t ≠ 62)
    have Kall : KeepsT wr w6 (fun t => t ≠ 63 ∧ t ≠ 62) := Kt.out.trans Ke
    have KT := map_keepsT Hmt.out.drew Hg6.out (fun _ => True)
    have HB6 : Below base w w6 := below_own HBt.out.drew Hg6.out Kn.out.mapB (by have := HBt.out.size; have := Hb.out; show base ≤ wt.heap.size; omega)
    have hsp : Spares wr w6 := Spares.of (HB6.os.trans HBu.out.os.symm) (HB6.tape.trans HBu.out.tape.symm) (HB6.output.trans HBu.out.output.symm) (Nat.le_of_lt (KT.blk Hnew.out.drew trivial).lt) Kall (fun t h1 h2 _ => ⟨h2, h1⟩)
    refine ⟨_, rfl, OwnBs.nil _ _ _, ⟨_, _, gM, _, ?_, TabAt.push (k := ⟨k1, k2, k3, k4, k5⟩) (KT.blk Tabt.out.drew trivial) Kn.out.tabB (KT.row Ht.out trivial) Kn.out.nodup (fun hmem => ?_) (by have := Hsz.out; have := Hb.out; omega) (Its.keeps (fun x hx => Kn.out.it x hx) Kall (by decide) (by decide)) (KT.blk Hnew.out.drew trivial) Hm6.out Kn.out.mapB Kn.out.hit Kn.out.miss Kn.out.keys Kn.out.oks Hk.out Hmiss2.out⟩, HB6, Spu.out.trans hsp⟩
    · rw [List.map_append, Hlc.out]; rfl
    · obtain ⟨x, hx, hxg⟩ := List.mem_map.1 hmem
      have := (Kn.out.it x hx).1.lt
      omega
end Go.Proofs.Ytkgeccmpekclcaa
