/- The document's driver: its form; made; how many are free. -/
import Derived.Test.YtgiegiobigdplaaVnBb
namespace Go.Proofs.Ytgiegiobigdplaa
open Go Go.RowKit
attribute [local go_sem ↓] Go.wp_at_zero Go.wp_at_succ
set_option maxRecDepth 100000
set_option linter.unusedSimpArgs false
set_option linter.unusedVariables false

/-- a row of pairs, laid flat -/
def chRow (l : List (Nat × Value)) : List Value := l.flatMap (fun p => [.int .i64 (p.1 : Int), p.2])
theorem chRow_len (l : List (Nat × Value)) : (chRow l).length = l.length * 2 := by
  induction l with
  | nil => rfl
  | cons p l ih => unfold chRow at *; rw [List.flatMap_cons, List.length_append, ih, List.length_cons]; simp; omega
theorem chRow_app (l r : List (Nat × Value)) : chRow (l ++ r) = chRow l ++ chRow r := by unfold chRow; rw [List.flatMap_append]
theorem chRow_take (l : List (Nat × Value)) (k : Nat) (h : k ≤ l.length) : (chRow l).take (k * 2) = chRow (l.take k) := by
  have e : chRow l = chRow (l.take k) ++ chRow (l.drop k) := by rw [← chRow_app, List.take_append_drop]
  rw [e, List.take_left' (by rw [chRow_len, List.length_take]; omega)]
theorem chRow_drop (l : List (Nat × Value)) (k : Nat) (h : k ≤ l.length) : (chRow l).drop (k * 2) = chRow (l.drop k) := by
  have e : chRow l = chRow (l.take k) ++ chRow (l.drop k) := by rw [← chRow_app, List.take_append_drop]
  rw [e, List.drop_left' (by rw [chRow_len, List.length_take]; omega)]
theorem chRow_get {l : List (Nat × Value)} {i h : Nat} {x : Value} (hi : l[i]? = some (h, x)) : (chRow l)[i * 2]? = some (.int .i64 (h : Int)) ∧ (chRow l)[i * 2 + 1]? = some x := by
  have hlt : i < l.length := (List.getElem?_eq_some_iff.1 hi).1
  have e : (chRow l).drop (i * 2) = .int .i64 (h : Int) :: x :: chRow (l.drop (i + 1)) := by
    rw [chRow_drop l i (by omega), List.drop_eq_getElem_cons hlt, (List.getElem?_eq_some_iff.1 hi).2]
    rfl
  constructor
  · have := congrArg (fun z => z[0]?) e
    simp only [List.getElem?_drop] at this
    exact this
  · have := congrArg (fun z => z[1]?) e
    simp only [List.getElem?_drop] at this
    exact this
theorem chRow_one {l : List (Nat × Value)} (h : ∀ p ∈ l, p.2.oneCell' = true) : ∀ u ∈ chRow l, u.oneCell' = true := by
  intro u hu
  unfold chRow at hu
  obtain ⟨p, hp, hu⟩ := List.mem_flatMap.1 hu
  simp at hu
  rcases hu with rfl | rfl
  · rfl
  · exact h p hp
/-- the chains that fly -/
def FlyAt (w : World) (base : Nat) (vF : Value) (l : List (Nat × Value)) (F : Nat → Prop) : Prop :=
  w.ownsRow base 125 2 vF l.length (chRow l) ∧ (∀ k, vF.ownBlock = some k → F k) ∧ ∀ p ∈ l, w.ownsRow base 3 1 p.2 1 [.int .i64 (p.1 : Int)] ∧ ∀ k, p.2.ownBlock = some k → F k
def rdrvCells (gm L b n gt put got : Nat) (vF : Value) : List Value := [.slice (some ⟨gm, 0, none⟩) L L, .int .i64 (b : Int), .int .i64 (n : Int), .slice (some ⟨gt, 0, none⟩) n n, .int .i64 (put : Int), .int .i64 (got : Int), vF]
structure RMid (w : World) (base gm L b n g put got : Nat) (bs : List Bool) (gt : Nat) (vF : Value) (l : List (Nat × Value)) (F : Nat → Prop) : Prop where
  tab : Blk w g 111 (rdrvCells gm L b n gt put got vF)
  bsk : Blk w gt 4 (bs.map Value.bool)
  fly : FlyAt w base vF l F
  fg : F g
  ft : F gt
  flt : ∀ k, F k → base ≤ k ∧ k < w.heap.size
structure RDrvAt (w : World) (base gm L b n g : Nat) (q : VQ) (m gt : Nat) (vF : Value) (l : List (Nat × Value)) (F : Nat → Prop) : Prop where
  mid : RMid w base gm L b n g q.put q.got q.busy gt vF l F
  len : q.busy.length = n
  put : q.put < 65536
  got : q.got < 65536
  nod : (l.map Prod.fst).Nodup
  mem : ∀ h, h ∈ l.map Prod.fst ↔ q.busy[h]? = some true
  lm : l.length ≤ m
def RDrv (w : World) (base gm L b n g : Nat) (q : VQ) (m : Nat) (F : Nat → Prop) : Prop := ∃ gt vF l, RDrvAt w base gm L b n g q m gt vF l F
section
variable {w w' : World} {base gm L b n g put got gt m : Nat} {q : VQ} {bs : List Bool} {vF : Value} {l : List (Nat × Value)} {F G : Nat → Prop}
theorem FlyAt.frame (h : FlyAt w base vF l F) (hf : Frame G w w') (hd : ∀ k, F k → ¬ G k) : FlyAt w' base vF l F :=
  ⟨hf.own h.1 (fun k hk => hd k (h.2.1 k hk)), h.2.1, fun p hp => ⟨hf.own (h.2.2 p hp).1 (fun k hk => hd k ((h.2.2 p hp).2 k hk)), (h.2.2 p hp).2⟩⟩
theorem RMid.frame (h : RMid w base gm L b n g put got bs gt vF l F) (hf : Frame G w w') (hd : ∀ k, F k → ¬ G k) : RMid w' base gm L b n g put got bs gt vF l F :=
  ⟨hf.blk h.tab (hd _ h.fg), hf.blk h.bsk (hd _ h.ft), h.fly.frame hf hd, h.fg, h.ft, fun k hk => ⟨(h.flt k hk).1, Nat.lt_of_lt_of_le (h.flt k hk).2 hf.size⟩⟩
theorem RMid.keep (h : RMid w base gm L b n g put got bs gt vF l F) (hb : Below w.heap.size w w') : RMid w' base gm L b n g put got bs gt vF l F := h.frame (G := fun _ => False) (Below.frameF hb _) (fun _ _ => id)
theorem RDrv.frame (h : RDrv w base gm L b n g q m F) (hf : Frame G w w') (hd : ∀ k, F k → ¬ G k) : RDrv w' base gm L b n g q m F := by
  obtain ⟨gt, vF, l, h⟩ := h
  exact ⟨gt, vF, l, h.mid.frame hf hd, h.len, h.put, h.got, h.nod, h.mem, h.lm⟩
theorem RDrv.keep (h : RDrv w base gm L b n g q m F) (hb : Below w.heap.size w w') : RDrv w' base gm L b n g q m F := h.frame (G := fun _ => False) (Below.frameF hb _) (fun _ _ => id)
theorem RDrv.bd (h : RDrv w base gm L b n g q m F) (k : Nat) (hk : F k) : base ≤ k ∧ k < w.heap.size := by
  obtain ⟨gt, vF, l, h⟩ := h
  exact h.mid.flt k hk
/-- a store into the driver's own cells -/
theorem blk_set_other {g' t' : Nat} {xs : List Value} {t : TypeId} (h : Blk w g t xs) (hne : g ≠ g') (i : Nat) (u : Value) : Blk (w.setCell ⟨g', i, none⟩ u) g t xs := h.far hne u
theorem FlyAt.set_ (h : FlyAt w base vF l F) (z i : Nat) (u : Value) (h1 : ∀ k, vF.ownBlock = some k → k ≠ z) (h2 : ∀ p ∈ l, ∀ k, p.2.ownBlock = some k → k ≠ z) : FlyAt (w.setCell ⟨z, i, none⟩ u) base vF l F := by
  have hf := frame_mem (grown_set w z i u)
  exact ⟨hf.own h.1 h1, h.2.1, fun p hp => ⟨hf.own (h.2.2 p hp).1 (h2 p hp), (h.2.2 p hp).2⟩⟩
theorem own_blk_ne {z size k : Nat} {e t : TypeId} {v : Value} {xs ys : List Value} (h : w.ownsRow base e size v k xs) (hb : Blk w z t ys) (ht : e ≠ t) : ∀ j, v.ownBlock = some j → j ≠ z := by
  intro j hj e1
  subst e1
  rcases h.2 with ⟨rfl, _⟩ | ⟨g0, cap, cur, rfl, _, h2, _⟩
  · simp [Value.ownBlock] at hj
  · simp [Value.ownBlock] at hj
    subst hj
    unfold Blk at hb
    rw [h2] at hb
    injection hb with hb
    injection hb with _ h3
    exact ht h3
theorem RMid.cell_ (h : RMid w base gm L b n g put got bs gt vF l F) (put' got' : Nat) (i : Nat) (u : Value) (hc : (rdrvCells gm L b n gt put got vF).set i u = rdrvCells gm L b n gt put' got' vF) : RMid (w.setCell ⟨g, i, none⟩ u) base gm L b n g put' got' bs gt vF l F := by
  have hb := h.tab.set_ i u
  rw [hc] at hb
  have hz := (grown_set w g i u).size
  exact ⟨hb, h.bsk.far (fun e => blk_ne h.tab h.bsk (by decide) e.symm) u, h.fly.set_ g i u (own_blk_ne h.fly.1 h.tab (by decide)) (fun p hp => own_blk_ne (h.fly.2.2 p hp).1 h.tab (by decide)), h.fg, h.ft, fun k hk => ⟨(h.flt k hk).1, Nat.lt_of_lt_of_le (h.flt k hk).2 hz⟩⟩
theorem RMid.mark (h : RMid w base gm L b n g put got bs gt vF l F) (i : Nat) (y : Bool) : RMid (w.setCell ⟨gt, i, none⟩ (.bool y)) base gm L b n g put got (bs.set i y) gt vF l F := by
  have hb := h.bsk.set_ i (.bool y)
  rw [← List.map_set] at hb
  have hz := (grown_set w gt i (.bool y)).size
  exact ⟨h.tab.far (fun e => blk_ne h.tab h.bsk (by decide) e) _, hb, h.fly.set_ gt i _ (own_blk_ne h.fly.1 h.bsk (by decide)) (fun p hp => own_blk_ne (h.fly.2.2 p hp).1 h.bsk (by decide)), h.fg, h.ft, fun k hk => ⟨(h.flt k hk).1, Nat.lt_of_lt_of_le (h.flt k hk).2 hz⟩⟩
/-- the row of chains is another one now -/
theorem RMid.fly_ (h : RMid w base gm L b n g put got bs gt vF l F) {vF' : Value} {l' : List (Nat × Value)} {F' : Nat → Prop} (hF : ∀ k, F k → F' k) (hflt : ∀ k, F' k → base ≤ k ∧ k < w.heap.size) (hfl : FlyAt w base vF' l' F') : RMid (w.setCell ⟨g, 6, none⟩ vF') base gm L b n g put got bs gt vF' l' F' := by
  have hb := h.tab.set_ 6 vF'
  have hz := (grown_set w g 6 vF').size
  exact ⟨hb, h.bsk.far (fun e => blk_ne h.tab h.bsk (by decide) e.symm) _, hfl.set_ g 6 _ (own_blk_ne hfl.1 h.tab (by decide)) (fun p hp => own_blk_ne (hfl.2.2 p hp).1 h.tab (by decide)), hF _ h.fg, hF _ h.ft, fun k hk => ⟨(hflt k hk).1, Nat.lt_of_lt_of_le (hflt k hk).2 hz⟩⟩
end
theorem fly_none (w : World) (base : Nat) (F : Nat → Prop) : FlyAt w base (.slice none 0 0) [] F := ⟨World.ownsRow_nil w base _ 2, fun k hk => by simp [Value.ownBlock] at hk, fun p hp => by cases hp⟩
def RNewDrvPost (gm L b n : Nat) (M : List UInt8) (w : World) (e : Ending) (w' : World) : Prop :=
  ∃ g F, e = .returned (.tuple #[.pointer (some ⟨g, 0, none⟩), .int .i64 0]) ∧ RDrv w' w.heap.size gm L b n g (vq0 n) 0 F ∧ MemAt w' gm (patch M b (zeros (vSize n))) ∧ Frame (fun k => k = gm) w w'
theorem rdrv_made {w wf : World} {gm L b n g gt : Nat} (h1 : Blk wf g 111 (rdrvCells gm L b n gt 0 0 (.slice none 0 0))) (h2 : Blk wf gt 4 (falses n).toList) (k1 : w.heap.size ≤ g) (k2 : w.heap.size ≤ gt) :
    RDrv wf w.heap.size gm L b n g (vq0 n) 0 (fun k => k = g ∨ k = gt) :=
  ⟨gt, _, [], ⟨h1, by show Blk wf gt _ ((List.replicate n false).map Value.bool); rw [List.map_replicate]; exact h2, fly_none _ _ _, .inl rfl, .inr rfl, fun k e => by rcases e with rfl | rfl; exact ⟨k1, h1.lt⟩; exact ⟨k2, h2.lt⟩⟩, List.length_replicate, Nat.zero_lt_succ _, Nat.zero_lt_succ _, List.nodup_nil, fun h => ⟨fun e => (by cases e), fun e => by
    unfold vq0 at e
    simp only [List.getElem?_replicate] at e
    split at e <;> simp at e⟩, Nat.le_refl _⟩
theorem rnewdrv_yes (gm L b n : Nat) (M : List UInt8) (w : World) (hm : MemAt w gm M) (hM : M.length = L) (hok : okN (n : Int) = true) (hb : b + vSize n ≤ L) (hL : L ≤ 1000000) :
    Calls Try.prog 31 #[.slice (some ⟨gm, 0, none⟩) L L, .int .i64 (b : Int), .int .i64 (n : Int)] w (RNewDrvPost gm L b n M w) := by
  have HA := hid (rvfits_yes (some ⟨gm, 0, none⟩) L L b n w hok hb hL)
  have hn := okN_le hok
  have h0 := fun wy => rvsize_any (n : Int) wy
  rw [vSizeI_of hok] at h0
  have HM := hid (And.intro hm hM)
  have Hgm := hid (show gm < w.heap.size from Blk.lt hm)
  obtain ⟨S, hS⟩ : ∃ S, vSize n = S := ⟨_, rfl⟩
  rw [hS] at h0 hb
  have HS := hid h0
  have HSe := hid hS
  have Hz := hid (show (zeros S).length = S from zeros_len S)
  have hmk := run_makeB .i64 .i64 (n : Int) n rfl (by omega)
  clear h0 hS hm hM hok
  go_enter Try.func31, Try.ntmps31
  go_upto_region 4 with (go_at_call 52; refine HA.out.mono ?_; rintro e w2 ⟨rfl, hw⟩; have hw := hw.symm; subst hw)
  go_loopg [8] S (fun gk s8 wx => ∃ i : Nat, i + gk = S ∧ s8 = .int .i64 (i : Int) ∧ MemAt wx gm (patch M b ((zeros S).take i)) ∧ Frame (fun k => k = gm) w wx)
  case atStart => exact ⟨0, by omega, rfl, by rw [List.take_zero, patch_nil]; exact HM.out.1, Frame.refl _ _⟩
  case round =>
    obtain ⟨i, hi, rfl, hMi, hF⟩ := hrel
    have HMi := hid hMi
    have HF := hid hF
    clear hMi hF
    by_cases hlt : i < S
    · have hltI : (i : Int) < (S : Int) := by omega
      have hl : (patch M b ((zeros S).take i)).length = L := by rw [patch_len (by rw [List.length_take, HM.out.2, Hz.out]; omega), HM.out.2]
      obtain ⟨old, hco⟩ : ∃ old, wr.cell? ⟨gm, b + i, none⟩ = some old := ⟨_, (Blk.cell HMi.out (b + i)).trans (List.getElem?_eq_getElem (by rw [List.length_map, hl]; omega))⟩
      have zp := Blk.frozen HMi.out (b + i)
      have Hst := hid (patch_step M (zeros S) b i 0 (by unfold zeros; rw [List.getElem?_replicate, if_pos hlt]) (by rw [Hz.out, HM.out.2]; exact hb))
      have Hms := hid (show S - (i + 1) < gk ∧ i + 1 + (S - (i + 1)) = S by omega)
      clear hi hl
      go_wp2_with (go_at_call 26; refine (HS.out _).mono ?_; rintro e w' ⟨rfl, hw⟩; have hw := hw.symm; subst hw)
      go_roundg (S - (i + 1))
      case measure => exact Hms.out.1
      case rel =>
        refine ⟨i + 1, Hms.out.2, by go_num, ?_, HF.out.trans (frame_mem (grown_set _ _ _ _)) (fun _ _ h => h)⟩
        have h2 := Blk.set_ HMi.out (b + i) (u8v 0)
        rw [← List.map_set, Hst.out] at h2
        exact h2
    · obtain rfl : i = S := by omega
      have hltI : ¬ (i : Int) < (i : Int) := by omega
      clear hi
      go_wp2_with (go_at_call 26; refine (HS.out _).mono ?_; rintro e w' ⟨rfl, hw⟩; have hw := hw.symm; subst hw)
      go_ret2
      have h1 := Blk.new wr 4 (falses n)
      have b2 := (below_alloc wr (.cells (falses n) 4))
      have hm2 := HMi.out
      rw [List.take_of_length_le (by rw [Hz.out]; exact Nat.le_refl _)] at hm2
      have hz2 := HF.out.size
      have h3 := Blk.new (wr.alloc (.cells (falses n) 4)) 111 #[.slice (some ⟨gm, 0, none⟩) L L, .int .i64 (b : Int), .int .i64 (n : Int), .slice (some ⟨wr.heap.size, 0, none⟩) n n, .int .i64 0, .int .i64 0, .slice none 0 0]
      rw [World.size_alloc] at h3
      refine ⟨_, _, rfl, rdrv_made h3 (h1.alloc _) (by omega) hz2, ?_, HF.out.trans (Below.frameF (below_alloc' b2 _) _) (fun _ _ e => e)⟩
      rw [HSe.out]
      exact MemAt.keep hm2 (below_alloc' b2 _)
theorem rfree_at (g gt n : Nat) (busy : List Bool) (w : World) (hl : busy.length = n) (hn : n ≤ 256) (hb : Blk w gt 4 (busy.map Value.bool)) (c2 : w.cell? ⟨g, 2, none⟩ = some (.int .i64 (n : Int))) (c3 : w.cell? ⟨g, 3, none⟩ = some (.slice (some ⟨gt, 0, none⟩) n n)) :
    Calls Try.prog 56 #[.pointer (some ⟨g, 0, none⟩)] w fun e w' => e = .returned (.int .i64 (vFree busy : Int)) ∧ w' = w := by
  have HB := hid hb
  have Hl := hid hl
  clear hb hl
  go_enter Try.func56, Try.ntmps56
  go_wp2_with fail
  go_loopg [3, 4] n (fun gk s3 s4 wx => ∃ k : Nat, k + gk = n ∧ s3 = .int .i64 (vFree (busy.take k) : Int) ∧ s4 = .int .i64 (k : Int) ∧ wx = w)
  case atStart => exact ⟨0, by omega, rfl, rfl, rfl⟩
  case round =>
    obtain ⟨k, hk, rfl, rfl, hw⟩ := hrel
    have hw := hw.symm
    subst hw
    by_cases hlt : k < n
    · have hltI : (k : Int) < (n : Int) := by omega
      obtain ⟨bb, hbb⟩ : ∃ bb, busy[k]? = some bb := ⟨_, List.getElem?_eq_getElem (by rw [Hl.out]; exact hlt)⟩
      have hcell : w.cell? ⟨gt, k, none⟩ = some (.bool bb) := by rw [HB.out.cell k, List.getElem?_map, hbb]; rfl
      have Hs := hid (vFree_snoc busy k bb hbb)
      have Hf := hid (show vFree (busy.take k) ≤ 256 from Nat.le_trans (vFree_le _) (by rw [List.length_take]; omega))
      have hf := Hf.out
      obtain ⟨c, hc⟩ : ∃ c, vFree (busy.take k) = c := ⟨_, rfl⟩
      rw [hc] at hf ⊢
      have Hc := hid hc
      have Hms := hid (show n - (k + 1) < gk ∧ k + 1 + (n - (k + 1)) = n by omega)
      clear hbb hc
      cases bb with
      | true =>
        go_wp2_with fail
        go_roundg (n - (k + 1))
        case measure => exact Hms.out.1
        case rel => exact ⟨k + 1, Hms.out.2, by rw [Hs.out, Hc.out]; rfl, by go_num, rfl⟩
      | false =>
        go_wp2_with fail
        go_roundg (n - (k + 1))
        case measure => exact Hms.out.1
        case rel => exact ⟨k + 1, Hms.out.2, by rw [Hs.out, Hc.out]; go_num, by go_num, rfl⟩
    · obtain rfl : k = n := by omega
      have hltI : ¬ (k : Int) < (k : Int) := by omega
      have e : busy.take k = busy := List.take_of_length_le (by rw [Hl.out]; omega)
      rw [e]
      clear hk e
      go_wp2_with fail
      go_ret
      exact ⟨rfl, rfl⟩
end Go.Proofs.Ytgiegiobigdplaa
