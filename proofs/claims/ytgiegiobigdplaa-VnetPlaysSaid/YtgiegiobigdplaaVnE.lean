/- The program's driver: how it is made; how many descriptors are free. -/
import Derived.Test.YtgiegiobigdplaaVnD
import Derived.Test.YtgiegiobigdplaaMapI
import Derived.Test.YtgiegiobigdplaaRowAt
import Derived.Lib.SliceRun
import Derived.Deep.RegionHeld3
import Derived.Deep.Cut
import Derived.Deep.CutRange
import Derived.Deep.CutBlock
import Derived.Deep.QuietTactic
import Derived.BigRegion
import Derived.BigQuiet
namespace Go.Proofs.Ytgiegiobigdplaa
open Go Go.RowKit
attribute [local go_sem ↓] Go.wp_at_zero Go.wp_at_succ
set_option maxRecDepth 100000
set_option linter.unusedSimpArgs false

def zeros (n : Nat) : List UInt8 := List.replicate n 0
theorem zeros_len (n : Nat) : (zeros n).length = n := List.length_replicate
/-- clear of a piece of memory -/
theorem run_clearM {w : World} {g : Nat} {M : List UInt8} (hm : MemAt w g M) (off n cap : Nat) (hn : 0 < n) (hfit : off + n ≤ M.length) (ty : TypeId) :
    ∃ w', (Builtin.clear_ #[25] ty #[.slice (some ⟨g, off, none⟩) n cap]).run Try.prog w = .ok (.tuple #[]) w' ∧ MemAt w' g (patch M off (zeros n)) ∧ w.grownBy w' (some g) := by
  have hz0 : ∀ wx, (zeroValue 5).run Try.prog wx = .ok (.int .u8 0) wx := fun wx => by
    obtain ⟨i, hi, hz, _, _⟩ := info_parts u8info
    simp [zeroValue, typeInfo, hi, hz]
  refine ⟨_, Lib.run_clear_slice w 25 5 ty (.int .u8 0) Try.underlying25 hz0 rfl rfl g off n cap hn (fun j hj => ?_) (fun j _ => Blk.frozen hm _), ?_, grown_setCells _ _ _ _⟩
  · rw [Blk.cell hm (off + j)]
    rw [List.getElem?_eq_getElem (by rw [List.length_map]; omega)]
    rfl
  · have h := Blk.setCells (List.replicate n (Value.int .u8 0)) off hm
    rw [setAll_eq _ _ _ (by rw [List.length_replicate, List.length_map]; exact hfit), List.length_replicate] at h
    have e : (List.replicate n (Value.int .u8 0)) = (zeros n).map u8v := by rw [zeros, List.map_replicate]; rfl
    have h2 := patch_map M (zeros n) off
    rw [zeros_len] at h2
    show Blk _ _ _ _
    rw [← h2, ← e]
    rw [List.append_assoc] at h
    exact h
theorem wpList_clearM {w : World} {ops : Array Oper} {rest : List Oper} {o : Oper} {a : Act} {Q : Exit → Act → World → Prop} (hgd : o.guard = none) (x : Operand)
    (ho : o.op = .call { callee := .builtin .clear, args := #[x], argTypes := #[25] }) (g : Nat) (M : List UInt8) (off n cap : Nat) (hx : a.eval x = .slice (some ⟨g, off, none⟩) n cap) (hn : 0 < n) (hm : MemAt w g M) (hfit : off + n ≤ M.length)
    (h : ∀ w', MemAt w' g (patch M off (zeros n)) → w.grownBy w' (some g) → wpList Try.prog ops Q rest (a.put o.dst (.tuple #[])) w') : wpList Try.prog ops Q (o :: rest) a w := by
  refine wpList_plain hgd fun K hK => ?_
  obtain ⟨w', hrun, r1, r2⟩ := run_clearM hm off n cap hn hfit o.type
  unfold Oper.wp
  simp [execOp, ho, resolve, invoke, builtin, hx, hrun, Result.andThen]
  exact hK _ _ (h w' r1 r2)
def falses (n : Nat) : Array Value := (List.replicate n (Value.bool false)).toArray
theorem boolinfo : (Try.prog.info? 4).map (fun i => (i.zero, i.size, i.bytes)) = some (some (.bool false), 1, 1) := by kernel_rfl
theorem run_makeB (kl kc : IntKind) (c : Int) (n : Nat) (hn : c = n) (hb : n ≤ 281474976710656) (w : World) :
    (Instr.makeSlice 55 (.int kl c) (.int kc c)).run Try.prog w = .ok (.slice (some ⟨w.heap.size, 0, none⟩) n n) (w.alloc (.cells (falses n) 4)) := by
  obtain ⟨i, hi, hz, hsz, hby⟩ := info_parts boolinfo
  subst hn
  have hr := run_make (P := Try.prog) w 55 4 i _ Try.underlying55 hi hz kl kc n n (by omega) (Int.le_refl _) (by rw [hby]; omega) (by omega)
  rw [hr, hsz]
  simp only [Int.toNat_natCast, Nat.mul_one]
  have : madeCells (Value.bool false).cells n = falses n := by
    apply Array.ext'
    rw [falses]
    exact toList_madeCells_one _ n
  rw [this]

/-! ### the driver -/
def drvCells (gm b n : Nat) (q : VQ) (gb gch : Nat) : List Value := ringCells gm b n q.put q.got ++ [.slice (some ⟨gb, 0, none⟩) n n, .map (some gch)]
/-- the chains that fly: each of one descriptor -/
def ChainsIs (w : World) (base : Nat) (f : Nat → Option Value) (busy : List Bool) (F : Nat → Prop) : Prop :=
  ∀ h, h < 4294967296 → (busy[h]? = some true → ∃ v, f h = some v ∧ w.ownsRow base 3 1 v 1 [.int .i64 (h : Int)] ∧ ∀ k, v.ownBlock = some k → F k) ∧ (busy[h]? ≠ some true → f h = none)
/-- the program's driver in block g -/
structure DrvAt (w : World) (base gm b n g : Nat) (q : VQ) (m gb gch : Nat) (f : Nat → Option Value) (F : Nat → Prop) : Prop where
  tab : Blk w g 135 (drvCells gm b n q gb gch)
  bs : Blk w gb 4 (q.busy.map Value.bool)
  len : q.busy.length = n
  map : MapI Try.prog 3 w gch m f
  ch : ChainsIs w base f q.busy F
  fg : F g
  fb : F gb
  fc : F gch
  flt : ∀ k, F k → base ≤ k ∧ k < w.heap.size
  put : q.put < 65536
  got : q.got < 65536
def DrvInv (w : World) (base gm b n g : Nat) (q : VQ) (m : Nat) (F : Nat → Prop) : Prop := ∃ gb gch f, DrvAt w base gm b n g q m gb gch f F
theorem own_same {w w' : World} {base size n : Nat} {e : TypeId} {v : Value} {xs : List Value} (ho : w.ownsRow base e size v n xs) (hs : ∀ g, v.ownBlock = some g → w'.heap[g]? = w.heap[g]?) : w'.ownsRow base e size v n xs := by
  refine ⟨ho.1, ?_⟩
  rcases ho.2 with h0 | ⟨g, cap, cur, rfl, h1, h2, h3⟩
  · exact .inl h0
  · exact .inr ⟨g, cap, cur, rfl, h1, (hs g rfl).trans h2, h3⟩
section
variable {w w' : World} {base gm b n g : Nat} {q : VQ} {m gb gch : Nat} {f : Nat → Option Value} {F : Nat → Prop}
theorem ChainsIs.same {busy : List Bool} (h : ChainsIs w base f busy F) (hs : ∀ k, F k → w'.heap[k]? = w.heap[k]?) : ChainsIs w' base f busy F := fun x hx =>
  ⟨fun hb => by
    obtain ⟨v, h1, h2, h3⟩ := (h x hx).1 hb
    exact ⟨v, h1, own_same h2 (fun k hk => hs k (h3 k hk)), h3⟩, (h x hx).2⟩
theorem DrvAt.frame {G : Nat → Prop} (h : DrvAt w base gm b n g q m gb gch f F) (hf : Frame G w w') (hd : ∀ k, F k → ¬ G k) : DrvAt w' base gm b n g q m gb gch f F :=
  ⟨hf.blk h.tab (hd _ h.fg), hf.blk h.bs (hd _ h.fb), h.len, h.map.block (hf.block gch (h.flt _ h.fc).2 (hd _ h.fc)), h.ch.same (fun k hk => hf.block k (h.flt k hk).2 (hd k hk)), h.fg, h.fb, h.fc, fun k hk => ⟨(h.flt k hk).1, Nat.lt_of_lt_of_le (h.flt k hk).2 hf.size⟩, h.put, h.got⟩
theorem DrvAt.keep (h : DrvAt w base gm b n g q m gb gch f F) (hb : Below w.heap.size w w') : DrvAt w' base gm b n g q m gb gch f F := h.frame (G := fun _ => False) (Below.frameF hb _) (fun _ _ => id)
theorem DrvAt.drewN (h : DrvAt w base gm b n g q m gb gch f F) (k : Nat) : DrvAt (w.drewN k) base gm b n g q m gb gch f F := h.keep (below_drewN (Below.refl _ _) k)
theorem DrvInv.frame {G : Nat → Prop} (h : DrvInv w base gm b n g q m F) (hf : Frame G w w') (hd : ∀ k, F k → ¬ G k) : DrvInv w' base gm b n g q m F := by
  obtain ⟨a1, a2, a3, h⟩ := h
  exact ⟨a1, a2, a3, h.frame hf hd⟩
theorem DrvInv.keep (h : DrvInv w base gm b n g q m F) (hb : Below w.heap.size w w') : DrvInv w' base gm b n g q m F := h.frame (G := fun _ => False) (Below.frameF hb _) (fun _ _ => id)
theorem DrvInv.bd (h : DrvInv w base gm b n g q m F) (k : Nat) (hk : F k) : base ≤ k ∧ k < w.heap.size := by
  obtain ⟨a1, a2, a3, h⟩ := h
  exact h.flt k hk
end
/-- the driver of a queue that was just made -/
def vq0 (n : Nat) : VQ := ⟨0, 0, List.replicate n false⟩
def NewDrvPost (gm b n : Nat) (M : List UInt8) (w : World) (e : Ending) (w' : World) : Prop :=
  ∃ g F, e = .returned (.tuple #[.pointer (some ⟨g, 0, none⟩), .int .i64 0]) ∧ DrvInv w' w.heap.size gm b n g (vq0 n) 0 F ∧ MemAt w' gm (patch M b (zeros (vSize n))) ∧ Frame (fun k => k = gm) w w'
theorem blk_ne {w : World} {g g' : Nat} {t t' : TypeId} {xs ys : List Value} (h1 : Blk w g t xs) (h2 : Blk w g' t' ys) (ht : t ≠ t') : g ≠ g' := by
  intro e
  subst e
  unfold Blk at h1 h2
  rw [h1] at h2
  injection h2 with h2
  injection h2 with _ h3
  exact ht h3
theorem chains_none (w : World) (base n : Nat) (F : Nat → Prop) : ChainsIs w base (fun _ => none) (List.replicate n false) F := fun h _ =>
  ⟨fun hb => by rw [List.getElem?_replicate] at hb; split at hb <;> simp at hb, fun _ => rfl⟩
/-- a driver that was just made, wherever its pieces lie -/
theorem drv_made {w wf : World} {gm b n g gb gch : Nat} {M : List UInt8} (h1 : Blk wf g 135 (drvCells gm b n (vq0 n) gb gch)) (h2 : Blk wf gb 4 (falses n).toList) (h3 : MapI Try.prog 3 wf gch 0 (fun _ => none))
    (k1 : w.heap.size ≤ g) (k2 : w.heap.size ≤ gb) (k3 : w.heap.size ≤ gch) (hm : MemAt wf gm (patch M b (zeros (vSize n)))) (hf : Frame (fun k => k = gm) w wf) :
    NewDrvPost gm b n M w (.returned (.tuple #[.pointer (some ⟨g, 0, none⟩), .int .i64 0])) wf := by
  refine ⟨g, fun k => k = g ∨ k = gb ∨ k = gch, rfl, ⟨gb, gch, _, ⟨h1, ?_, List.length_replicate, h3, chains_none _ _ _ _, .inl rfl, .inr (.inl rfl), .inr (.inr rfl), fun k hk => ?_, Nat.zero_lt_succ _, Nat.zero_lt_succ _⟩⟩, hm, hf⟩
  · have e : (falses n).toList = (vq0 n).busy.map Value.bool := by simp [falses, vq0]
    rw [← e]
    exact h2
  · have a1 := h1.lt
    have a2 := h2.lt
    have a3 := h3.lt
    rcases hk with rfl | rfl | rfl <;> omega
theorem drvinfo : (Try.prog.info? 135).map (·.size) = some 6 := by kernel_rfl
theorem vnewdrv_yes (gm L b n : Nat) (M : List UInt8) (w : World) (hok : okN (n : Int) = true) (hb : b + vSize n ≤ L) (hL : L ≤ 1000000) (hM : M.length = L) (hm : MemAt w gm M) :
    Calls Try.prog 50 #[.slice (some ⟨gm, 0, none⟩) L L, .int .i64 (b : Int), .int .i64 (n : Int)] w (NewDrvPost gm b n M w) := by
  have HA := hid (vat_yes gm L b n w hok hb hL)
  have hn := okN_le hok
  have HM := hid hm
  have HS := hid (show 0 < vSize n ∧ b + vSize n ≤ M.length by unfold vSize at *; omega)
  have hmk := run_makeB .i64 .i64 (n : Int) n rfl (by omega)
  clear hok hb hL hM hm
  go_enter Try.func50, Try.ntmps50
  go_upto_region 5 with (first
    | (go_at_call 53; refine HA.out.mono ?_; rintro e w2 ⟨rfl, hb2⟩; have Hb2 := hid hb2; clear hb2)
    | ((with_reducible show wpList _ _ _ (Oper.mk none _ _ _ _ _ :: _) _ _); refine wpList_storeBlk rfl _ _ _ rfl _ _ rfl rfl _ _ (Blk.new _ _ _) ringinfo rfl rfl ?_; intro w4 hblk hg hsz; have S4 := hid hblk; have Hb4 := hid (below_new_store hg); have M4 := hid (HM.out.keep (Hb2.out.trans (Hb4.out.mono Hb2.out.size))); have c0 := hblk.cell 0; clear hblk hg hsz; (try simp only [Act.put]))
    | ((with_reducible show wpList _ _ _ (Oper.mk none _ _ _ _ _ :: _) _ _); refine wpList_clearM rfl _ rfl gm M b (vSize n) (vSize n) rfl HS.out.1 M4.out HS.out.2 ?_; intro w5 hm5 hg5; have M5 := hid hm5; have Hg5 := hid hg5; clear hm5 hg5))
  have hne : w2.heap.size ≠ gm := blk_ne S4.out M4.out (by decide)
  have S5 := hid (S4.out.grown Hg5.out (fun e => by injection e with e; exact hne e))
  have F5 := hid ((Below.frameF (Hb2.out.trans (Hb4.out.mono Hb2.out.size)) (fun k => k = gm)).trans (frame_mem Hg5.out) (fun _ _ h => h))
  clear S4 Hb4 Hb2 M4 HM HA hne Hg5 c0
  generalize w2.heap.size = gr at *
  refine wp_region_held_drew (S := fun wy => Blk wy gr 113 (ringCells gm b n 0 0)) (by kernel_rfl) (by first | exact S5.out.drew | exact (S5.out.alloc _).drew | exact ((S5.out.alloc _).alloc _).drew | exact (((S5.out.alloc _).alloc _).alloc _).drew) (fun _ => ?_)
  (refine wpAnyH_take (i := 0) (v := .agg #[.slice (some ⟨gm, b, none⟩) (vSize n) (vSize n), .int .i64 (n : Int), .int .i64 0, .int .i64 0]) rfl (by kernel_rfl) (by kernel_rfl) (by kernel_rfl) (fun _ _ _ h => h) (Or.inl ⟨by rfl, by intro wq hSw; have c0 := hSw.cell 0; have c1 := hSw.cell 1; have c2 := hSw.cell 2; have c3 := hSw.cell 3; unfold ringCells at c0 c1 c2 c3; go_simp⟩) (by first | exact S5.out.drew | exact (S5.out.alloc _).drew | exact ((S5.out.alloc _).alloc _).drew | exact (((S5.out.alloc _).alloc _).alloc _).drew) ?_; (try simp only [Act.put, List.setIfInBounds_toArray, List.set_cons_zero, List.set_cons_succ]))
  (refine wpAnyH_take (i := 1) (v := .int .i64 (n : Int)) rfl (by kernel_rfl) (by kernel_rfl) (by kernel_rfl) (fun _ _ _ h => h) (Or.inl ⟨by rfl, by intro wq hSw; skip; go_simp⟩) (by first | exact S5.out.drew | exact (S5.out.alloc _).drew | exact ((S5.out.alloc _).alloc _).drew | exact (((S5.out.alloc _).alloc _).alloc _).drew) ?_; (try simp only [Act.put, List.setIfInBounds_toArray, List.set_cons_zero, List.set_cons_succ]))
  (refine wpAnyH_ready (rs := [2, 3]) (by kernel_rfl) (by simp) ?_; refine (AllReadyH.cons rfl (fun K hK => ?_) (AllReadyH.cons rfl (fun K hK => ?_) AllReadyH.nil)))
  · go_simp
    (refine hK.out _ _ (by first | exact S5.out.drew | exact (S5.out.alloc _).drew | exact ((S5.out.alloc _).alloc _).drew | exact (((S5.out.alloc _).alloc _).alloc _).drew) (fun _ => ?_); clear hK K; (try simp only [Act.put, List.setIfInBounds_toArray, List.set_cons_zero, List.set_cons_succ]))
    (refine wpAnyH_ready (rs := [3]) (by kernel_rfl) (by simp) ?_; refine (AllReadyH.cons rfl (fun K hK => ?_) AllReadyH.nil))
    go_simp
    (refine hK.out _ _ (by first | exact S5.out.drew | exact (S5.out.alloc _).drew | exact ((S5.out.alloc _).alloc _).drew | exact (((S5.out.alloc _).alloc _).alloc _).drew) (fun _ => ?_); clear hK K; (try simp only [Act.put, List.setIfInBounds_toArray, List.set_cons_zero, List.set_cons_succ]))
    (refine wpAnyH_ready (rs := [4]) (by kernel_rfl) (by simp) ?_; refine (AllReadyH.cons rfl (fun K hK => ?_) AllReadyH.nil))
    go_simp
    (refine hK.out _ _ (by first | exact S5.out.drew | exact (S5.out.alloc _).drew | exact ((S5.out.alloc _).alloc _).drew | exact (((S5.out.alloc _).alloc _).alloc _).drew) (fun _ => ?_); clear hK K; (try simp only [Act.put, List.setIfInBounds_toArray, List.set_cons_zero, List.set_cons_succ]))
    (refine wpAnyH_ready (rs := [5]) (by kernel_rfl) (by simp) ?_; refine (AllReadyH.cons rfl (fun K hK => ?_) AllReadyH.nil))
    go_simp
    (refine hK.out _ _ (by first | exact S5.out.drew | exact (S5.out.alloc _).drew | exact ((S5.out.alloc _).alloc _).drew | exact (((S5.out.alloc _).alloc _).alloc _).drew) (fun _ => ?_); clear hK K; (try simp only [Act.put, List.setIfInBounds_toArray, List.set_cons_zero, List.set_cons_succ]))
    (refine wpAnyH_ready (rs := [6]) (by kernel_rfl) (by simp) ?_; refine (AllReadyH.cons rfl (fun K hK => ?_) AllReadyH.nil))
    go_simp
    (refine hK.out _ _ (by first | exact S5.out.drew | exact (S5.out.alloc _).drew | exact ((S5.out.alloc _).alloc _).drew | exact (((S5.out.alloc _).alloc _).alloc _).drew) (fun _ => ?_); clear hK K; (try simp only [Act.put, List.setIfInBounds_toArray, List.set_cons_zero, List.set_cons_succ]))
    (refine wpAnyH_ready (rs := [7]) (by kernel_rfl) (by simp) ?_; refine (AllReadyH.cons rfl (fun K hK => ?_) AllReadyH.nil))
    go_simp
    (refine hK.out _ _ (by first | exact S5.out.drew | exact (S5.out.alloc _).drew | exact ((S5.out.alloc _).alloc _).drew | exact (((S5.out.alloc _).alloc _).alloc _).drew) (fun _ => ?_); clear hK K; (try simp only [Act.put, List.setIfInBounds_toArray, List.set_cons_zero, List.set_cons_succ]))
    refine wpAnyH_done (by kernel_rfl) ?_ _
    go_wp2_with fail
    go_ret2
    have hz := F5.out.size
    have h1 := Blk.new ((w5.alloc (.cells (falses n) 4)).alloc (.map #[] 0)) 135 #[.slice (some ⟨gm, b, none⟩) (vSize n) (vSize n), .int .i64 (n : Int), .int .i64 0, .int .i64 0, .slice (some ⟨w5.heap.size, 0, none⟩) n n, .map (some (w5.heap.size + 1))]
    rw [World.size_alloc, World.size_alloc] at h1
    have h3 := (MapI.made Try.prog 3 (w5.alloc (.cells (falses n) 4))).keep (below_alloc _ (.cells #[.slice (some ⟨gm, b, none⟩) (vSize n) (vSize n), .int .i64 (n : Int), .int .i64 0, .int .i64 0, .slice (some ⟨w5.heap.size, 0, none⟩) n n, .map (some (w5.heap.size + 1))] 135))
    rw [World.size_alloc] at h3
    exact drv_made h1.drew (((Blk.new w5 4 (falses n)).alloc _).alloc _).drew h3.drew (by omega) hz (by omega) (((Blk.alloc M5.out _).alloc _).alloc _).drew (F5.out.trans (Below.frameF ((below_alloc' (below_alloc' (below_alloc w5 _) _) _).drew) _) (fun _ _ h => h))
  · go_simp
    (refine hK.out _ _ (by first | exact S5.out.drew | exact (S5.out.alloc _).drew | exact ((S5.out.alloc _).alloc _).drew | exact (((S5.out.alloc _).alloc _).alloc _).drew) (fun _ => ?_); clear hK K; (try simp only [Act.put, List.setIfInBounds_toArray, List.set_cons_zero, List.set_cons_succ]))
    (refine wpAnyH_ready (rs := [2]) (by kernel_rfl) (by simp) ?_; refine (AllReadyH.cons rfl (fun K hK => ?_) AllReadyH.nil))
    go_simp
    (refine hK.out _ _ (by first | exact S5.out.drew | exact (S5.out.alloc _).drew | exact ((S5.out.alloc _).alloc _).drew | exact (((S5.out.alloc _).alloc _).alloc _).drew) (fun _ => ?_); clear hK K; (try simp only [Act.put, List.setIfInBounds_toArray, List.set_cons_zero, List.set_cons_succ]))
    (refine wpAnyH_ready (rs := [4]) (by kernel_rfl) (by simp) ?_; refine (AllReadyH.cons rfl (fun K hK => ?_) AllReadyH.nil))
    go_simp
    (refine hK.out _ _ (by first | exact S5.out.drew | exact (S5.out.alloc _).drew | exact ((S5.out.alloc _).alloc _).drew | exact (((S5.out.alloc _).alloc _).alloc _).drew) (fun _ => ?_); clear hK K; (try simp only [Act.put, List.setIfInBounds_toArray, List.set_cons_zero, List.set_cons_succ]))
    (refine wpAnyH_ready (rs := [5]) (by kernel_rfl) (by simp) ?_; refine (AllReadyH.cons rfl (fun K hK => ?_) AllReadyH.nil))
    go_simp
    (refine hK.out _ _ (by first | exact S5.out.drew | exact (S5.out.alloc _).drew | exact ((S5.out.alloc _).alloc _).drew | exact (((S5.out.alloc _).alloc _).alloc _).drew) (fun _ => ?_); clear hK K; (try simp only [Act.put, List.setIfInBounds_toArray, List.set_cons_zero, List.set_cons_succ]))
    (refine wpAnyH_ready (rs := [6]) (by kernel_rfl) (by simp) ?_; refine (AllReadyH.cons rfl (fun K hK => ?_) AllReadyH.nil))
    go_simp
    (refine hK.out _ _ (by first | exact S5.out.drew | exact (S5.out.alloc _).drew | exact ((S5.out.alloc _).alloc _).drew | exact (((S5.out.alloc _).alloc _).alloc _).drew) (fun _ => ?_); clear hK K; (try simp only [Act.put, List.setIfInBounds_toArray, List.set_cons_zero, List.set_cons_succ]))
    (refine wpAnyH_ready (rs := [7]) (by kernel_rfl) (by simp) ?_; refine (AllReadyH.cons rfl (fun K hK => ?_) AllReadyH.nil))
    go_simp
    (refine hK.out _ _ (by first | exact S5.out.drew | exact (S5.out.alloc _).drew | exact ((S5.out.alloc _).alloc _).drew | exact (((S5.out.alloc _).alloc _).alloc _).drew) (fun _ => ?_); clear hK K; (try simp only [Act.put, List.setIfInBounds_toArray, List.set_cons_zero, List.set_cons_succ]))
    refine wpAnyH_done (by kernel_rfl) ?_ _
    go_wp2_with fail
    go_ret2
    have hz := F5.out.size
    have h1 := Blk.new ((w5.alloc (.map #[] 0)).alloc (.cells (falses n) 4)) 135 #[.slice (some ⟨gm, b, none⟩) (vSize n) (vSize n), .int .i64 (n : Int), .int .i64 0, .int .i64 0, .slice (some ⟨w5.heap.size + 1, 0, none⟩) n n, .map (some w5.heap.size)]
    rw [World.size_alloc, World.size_alloc] at h1
    have h2 := (Blk.new (w5.alloc (.map #[] 0)) 4 (falses n)).alloc (.cells #[.slice (some ⟨gm, b, none⟩) (vSize n) (vSize n), .int .i64 (n : Int), .int .i64 0, .int .i64 0, .slice (some ⟨w5.heap.size + 1, 0, none⟩) n n, .map (some w5.heap.size)] 135)
    rw [World.size_alloc] at h2
    have h3 := ((MapI.made Try.prog 3 w5).keep (below_alloc _ (.cells (falses n) 4))).keep (below_alloc _ (.cells #[.slice (some ⟨gm, b, none⟩) (vSize n) (vSize n), .int .i64 (n : Int), .int .i64 0, .int .i64 0, .slice (some ⟨w5.heap.size + 1, 0, none⟩) n n, .map (some w5.heap.size)] 135))
    exact drv_made h1.drew h2.drew h3.drew (by omega) (by omega) hz (((Blk.alloc M5.out _).alloc _).alloc _).drew (F5.out.trans (Below.frameF ((below_alloc' (below_alloc' (below_alloc w5 _) _) _).drew) _) (fun _ _ h => h))
end Go.Proofs.Ytgiegiobigdplaa
