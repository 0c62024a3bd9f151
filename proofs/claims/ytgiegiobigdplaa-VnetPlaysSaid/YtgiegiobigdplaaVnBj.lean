/- The document's card: what it holds; a place is offered. -/
import Derived.Test.YtgiegiobigdplaaVnBe
namespace Go.Proofs.Ytgiegiobigdplaa
section
open Go Go.RowKit
attribute [local go_sem ↓] Go.wp_at_zero Go.wp_at_succ
set_option maxRecDepth 100000
set_option linter.unusedSimpArgs false
set_option linter.unusedVariables false

/-- heads that were offered, each with its place, which is the same number -/
def offRow (hs : List Nat) : List Value := chRow (hs.map fun h => (h, Value.int .i64 (h : Int)))
theorem offRow_len (hs : List Nat) : (offRow hs).length = hs.length * 2 := by unfold offRow; rw [chRow_len, List.length_map]
theorem offRow_app (a c : List Nat) : offRow (a ++ c) = offRow a ++ offRow c := by unfold offRow; rw [List.map_append, chRow_app]
theorem offRow_take (hs : List Nat) (k : Nat) (h : k ≤ hs.length) : (offRow hs).take (k * 2) = offRow (hs.take k) := by unfold offRow; rw [chRow_take _ k (by rw [List.length_map]; exact h), List.map_take]
theorem offRow_drop (hs : List Nat) (k : Nat) (h : k ≤ hs.length) : (offRow hs).drop (k * 2) = offRow (hs.drop k) := by unfold offRow; rw [chRow_drop _ k (by rw [List.length_map]; exact h), List.map_drop]
theorem offRow_get {hs : List Nat} {i h : Nat} (hi : hs[i]? = some h) : (offRow hs)[i * 2]? = some (.int .i64 (h : Int)) ∧ (offRow hs)[i * 2 + 1]? = some (.int .i64 (h : Int)) :=
  chRow_get (l := hs.map fun h => (h, Value.int .i64 (h : Int))) (by rw [List.getElem?_map, hi]; rfl)
theorem offRow_one (hs : List Nat) : ∀ u ∈ offRow hs, u.oneCell' = true := chRow_one (fun p hp => by obtain ⟨h, _, rfl⟩ := List.mem_map.1 hp; rfl)
def OffAt (w : World) (base : Nat) (v : Value) (hs : List Nat) : Prop := w.ownsRow base 90 2 v hs.length (offRow hs)
theorem offinfo : (Try.prog.info? 90).map (fun i => (i.zero, i.size, i.bytes)) = some (some (.agg #[.int .i64 0, .int .i64 0]), 2, 16) := by kernel_rfl
theorem offok : ElemOk Try.prog 65 90 (.agg #[.int .i64 0, .int .i64 0]) 2 16 := by
  obtain ⟨i, hi, hz, hsz, hby⟩ := info_parts offinfo
  exact ⟨Try.underlying65, ⟨i, hi, hz, hsz, hby⟩, rfl, by decide, by decide⟩
def RTakenPost (hs : List Nat) (i head : Nat) (w : World) (e : Ending) (w' : World) : Prop :=
  ∃ A k c, e = .returned (.tuple #[.int .i64 (head : Int), .slice A k c]) ∧ OffAt w' w.heap.size (.slice A k c) (hs.take i ++ hs.drop (i + 1)) ∧ Below w.heap.size w w'
set_option maxHeartbeats 4000000 in
theorem rtaken_at (base : Nat) (v : Value) (hs : List Nat) (i0 head : Nat) (w : World) (h : OffAt w base v hs) (hi : hs[i0]? = some head) (hne : ∀ j, j < i0 → hs[j]? ≠ some head) (hlen : hs.length ≤ 1000000000) :
    Calls Try.prog 40 #[v, .int .i64 (head : Int)] w (RTakenPost hs i0 head w) := by
  have hlt0 : i0 < hs.length := (List.getElem?_eq_some_iff.1 hi).1
  obtain ⟨gF, c, rfl⟩ := row_some h (by omega)
  obtain ⟨_, _, _, hv, hlc, hcm, _⟩ := RowN.of_own h
  injection hv with e1 e2 e3
  subst e1
  subst e3
  clear e2
  obtain ⟨ln, hln⟩ : ∃ x, hs.length = x := ⟨_, rfl⟩
  have Hln := hid hln
  rw [hln] at hlt0 hlc hlen ⊢
  have H := hid h
  have Hi := hid hi
  have Hne := hid hne
  have Hlc := hid (And.intro hlc hcm)
  clear h hi hne hln hlc hcm
  have Hcell := hid (show ∀ (i x : Nat), hs[i]? = some x → w.cell? ⟨gF, i * 2, none⟩ = some (.int .i64 (x : Int)) ∧ w.cell? ⟨gF, i * 2 + 1, none⟩ = some (.int .i64 (x : Int)) from fun i x hx =>
    ⟨by have := World.ownsRow.cells H.out rfl _ _ (offRow_get hx).1; rw [add_off, Nat.zero_add] at this; exact this, by have := World.ownsRow.cells H.out rfl _ _ (offRow_get hx).2; rw [add_off, Nat.zero_add] at this; exact this⟩)
  go_enter Try.func40, Try.ntmps40
  go_wp2_with fail
  go_loopg [6, 7] ln (fun gk s6 _ wx => ∃ i : Nat, i + gk = ln ∧ i ≤ i0 ∧ s6 = .int .i64 (i : Int) ∧ wx = w)
  case atStart => exact ⟨0, by omega, by omega, rfl, rfl⟩
  case round =>
    obtain ⟨i, hgk, hle, rfl, hw⟩ := hrel
    have hw := hw.symm
    subst hw
    have hltI : (i : Int) < (ln : Int) := by omega
    obtain ⟨x, hx⟩ : ∃ x, hs[i]? = some x := ⟨_, List.getElem?_eq_getElem (by rw [Hln.out]; omega)⟩
    obtain ⟨r0, r1⟩ := Hcell.out i x hx
    by_cases e : i = i0
    · subst e
      obtain rfl : x = head := by rw [Hi.out] at hx; injection hx with hx; exact hx.symm
      obtain ⟨rm, hrm⟩ : ∃ rm, ln = i + 1 + rm := ⟨ln - (i + 1), by omega⟩
      obtain ⟨ii, hif, hz, hss, hbyy⟩ := info_parts offinfo
      have hcut1 := run_cut_to (P := Try.prog) (T := 65) Try.underlying65 hif (some ⟨gF, 0, none⟩) ln c .i64 (i : Int) i rfl (by have := Hlc.out; omega)
      have hcut2 := run_cut_from (P := Try.prog) (T := 65) Try.underlying65 hif (some ⟨gF, 0, none⟩) ln c .i64 ((i : Int) + 1) (i + 1) rm (by omega) hrm Hlc.out.1
      rw [hss] at hcut1 hcut2
      have hrow := RowN.of_own H.out
      rw [Hln.out] at hrow
      have R1 := hid (RowN.cut hrow (l := 0) (k := i) (by omega))
      have R2 := hid (RowN.cut hrow (l := i + 1) (k := rm) (by omega))
      have e1 : ((offRow hs).drop (0 * 2)).take (i * 2) = offRow (hs.take i) := by rw [Nat.zero_mul, List.drop_zero, offRow_take hs i (by rw [Hln.out]; omega)]
      have e2 : ((offRow hs).drop ((i + 1) * 2)).take (rm * 2) = offRow (hs.drop (i + 1)) := by rw [offRow_drop hs (i + 1) (by rw [Hln.out]; omega), List.take_of_length_le (by rw [offRow_len, List.length_drop, Hln.out]; omega)]
      rw [e1, Nat.sub_zero] at R1
      rw [e2] at R2
      have Hib := hid (show i + rm ≤ 1000000000 by omega)
      have hwi : IntKind.i64.wrap ((i : Int) + 1) = (i : Int) + 1 := IntWalk.i64_in _ (by omega)
      have Hrm := hid hrm
      clear hif hz hss hbyy hrow e1 e2 hrm hx
      go_upto_region 7 with ((with_reducible show wpList _ _ _ (Oper.mk (some 25) _ _ _ _ _ :: _) _ _); refine wpList_app _ rfl _ _ 65 rfl w.heap.size 90 (.agg #[.int .i64 0, .int .i64 0]) 2 16 offok (.slice none 0 0) 0 [] rfl (World.ownsRow_nil _ _ _ _) (.slice (cutA (some ⟨gF, 0, none⟩) c 0 2) i c) i (offRow (hs.take i)) rfl R1.out (offRow_one _) (by have := Hib.out; omega) (by have := Hib.out; simp only [maxLen]; omega) (Nat.le_refl _) ?_; intro v5 w5 hown5 hg5 hat5; rw [Nat.zero_add, List.nil_append] at hown5; obtain ⟨_, A5, k5, rfl, _, _, _⟩ := RowN.of_own hown5; have O5 := hid hown5; have B5 := hid (show Below w.heap.size w w5 from grown_below (World.ownsRow_nil w w.heap.size 90 2) (Nat.le_refl _) hg5); have r1 := cell_below B5.out r1; clear hown5 hg5 hat5)
      go_region_held3 (fun wy => wy.cell? ⟨gF, i * 2 + 1, none⟩ = some (.int .i64 (x : Int))) (first | exact r1 | exact cell_below (below_drew _) r1 | exact S6.out) (first
        | (refine step_appH _ (by rfl) _ _ 65 (by rfl) w.heap.size 90 (.agg #[.int .i64 0, .int .i64 0]) 2 16 offok (.slice A5 i k5) i (offRow (hs.take i)) (by rfl) (own_below O5.out (below_drew w5)) (.slice (cutA (some ⟨gF, 0, none⟩) c (i + 1) 2) rm (c - (i + 1))) rm (offRow (hs.drop (i + 1))) (by rfl) (R2.out.below (B5.out.trans ((below_drew w5).mono B5.out.size))) (offRow_one _) (by have := Hib.out; omega) (by have := Hib.out; simp only [maxLen]; omega) B5.out.size ?_; intro v6 w6 hown6 hg6 hat6; obtain ⟨_, A6, k6, rfl, _, _, _⟩ := RowN.of_own hown6; have O6 := hid hown6; have B6 := hid (B5.out.drew.trans (grown_below (own_below O5.out (below_drew w5)) B5.out.size hg6)); have S6 := hid (cell_below B6.out (Hcell.out i x Hi.out).2); clear hown6 hg6 hat6)
        | fail)
      all_goals
        go_wp2_with fail
        go_ret2
        refine ⟨A6, _, k6, rfl, ?_, B6.out⟩
        unfold OffAt
        rw [offRow_app, show (hs.take i ++ hs.drop (i + 1)).length = i + rm by rw [List.length_append, List.length_take, List.length_drop, Hln.out]; have := Hrm.out; omega]
        exact O6.out
    · have hxh : ¬ (x : Int) = (head : Int) := by
        have := Hne.out i (by omega)
        intro e2
        have e3 : x = head := by omega
        subst e3
        exact this hx
      have Hms := hid (show ln - (i + 1) < gk ∧ i + 1 + (ln - (i + 1)) = ln ∧ i + 1 ≤ i0 by omega)
      clear hx e
      go_wp2_with fail
      go_roundg (ln - (i + 1))
      case measure => exact Hms.out.1
      case rel => exact ⟨i + 1, Hms.out.2.1, Hms.out.2.2, by go_num, rfl⟩
theorem rat_at (gC b n p : Nat) (w : World) (c3 : w.cell? ⟨gC, 3, none⟩ = some (.int .i64 (b : Int))) (c4 : w.cell? ⟨gC, 4, none⟩ = some (.int .i64 (n : Int))) (hok : okN (n : Int) = true) (hb : b ≤ 1000000) (hp : p ≤ 1000) :
    Calls Try.prog 41 #[.pointer (some ⟨gC, 0, none⟩), .int .i64 (p : Int)] w fun e w' => e = .returned (.int .i64 (vPlace b n p : Int)) ∧ ∃ q, w' = w.drewN q := by
  have hn := okN_le hok
  have h0 := fun wy => rvsize_any (n : Int) wy
  rw [vSizeI_of hok] at h0
  obtain ⟨S, hS⟩ : ∃ S, vSize n = S := ⟨_, rfl⟩
  rw [hS] at h0
  have hSb : S ≤ 10000 := by rw [← hS]; unfold vSize; omega
  have HS := hid (fun j => quiet0 (h0 (w.drewN j)))
  obtain ⟨x, hx⟩ : ∃ x, vPlace b n p = x := ⟨_, rfl⟩
  have hxI : (b : Int) + 2 * (S : Int) + (p : Int) * 1528 = (x : Int) := by unfold vPlace at hx; rw [hS] at hx; omega
  rw [hx]
  have hw1 : IntKind.i64.wrap (2 * (S : Int)) = 2 * (S : Int) := IntWalk.i64_in _ (by omega)
  have hw2 : IntKind.i64.wrap ((b : Int) + 2 * (S : Int)) = (b : Int) + 2 * (S : Int) := IntWalk.i64_in _ (by omega)
  have hw3 : IntKind.i64.wrap ((p : Int) * 1528) = (p : Int) * 1528 := IntWalk.i64_in _ (by omega)
  have hw4 : IntKind.i64.wrap (x : Int) = (x : Int) := IntWalk.i64_in _ (by omega)
  clear hok h0 hS hx
  go_enter Try.func41, Try.ntmps41
  go_upto_region 1 with fail
  go_quiet ((go_at_call 26; (with_reducible exact Calls.quiet_of (HS.out _))))
  go_wp2_with fail
  go_ret
  exact ⟨rfl, _, rfl⟩
end
section
open Go Go.RowKit
attribute [local go_sem ↓] Go.wp_at_zero Go.wp_at_succ
set_option maxRecDepth 100000
set_option linter.unusedSimpArgs false
set_option linter.unusedVariables false

/-- the heads of a list are those that fly -/
def Tie (hs : List Nat) (busy : List Bool) : Prop := hs.Nodup ∧ ∀ k, k ∈ hs ↔ busy[k]? = some true
def rcardCells (gm L b n gi go : Nat) (vi vo : Value) : List Value := [.pointer (some ⟨gi, 0, none⟩), .pointer (some ⟨go, 0, none⟩), .slice (some ⟨gm, 0, none⟩) L L, .int .i64 (b : Int), .int .i64 (n : Int), vi, vo]
/-- the document's card in block gC; 'col' tells whose a block is: 1 the card's cells, 2 what comes in, 3 what goes out, 4 and 5 the rows of places, 6 the memory, 0 another's -/
structure RCard (w : World) (base gm L b n gC : Nat) (M : List UInt8) (ci co : VQ) (m gi go : Nat) (vi vo : Value) (hi ho : List Nat) (col : Nat → Nat) : Prop where
  tab : Blk w gC 67 (rcardCells gm L b n gi go vi vo)
  qi : RDrv w base gm L b n gi ci m (fun k => col k = 2)
  qo : RDrv w base gm L (b + vSize n) n go co m (fun k => col k = 3)
  oi : OffAt w base vi hi
  oo : OffAt w base vo ho
  ki : ∀ k, vi.ownBlock = some k → col k = 4
  ko : ∀ k, vo.ownBlock = some k → col k = 5
  cC : col gC = 1
  cm : col gm = 6
  mem : MemAt w gm M
  len : M.length = L
  flt : ∀ k, col k ≠ 0 → base ≤ k ∧ k < w.heap.size
  li : hi.length ≤ m
  lo : ho.length ≤ m
theorem RDrv.mono {w : World} {base gm L b n g m m' : Nat} {q : VQ} {F F' : Nat → Prop} (h : RDrv w base gm L b n g q m F) (hm : m ≤ m') (hF : ∀ k, F k → F' k) (hb : ∀ k, F' k → base ≤ k ∧ k < w.heap.size) : RDrv w base gm L b n g q m' F' := by
  obtain ⟨gt, vF, l, h⟩ := h
  exact ⟨gt, vF, l, ⟨h.mid.tab, h.mid.bsk, ⟨h.mid.fly.1, fun k hk => hF k (h.mid.fly.2.1 k hk), fun p hp => ⟨(h.mid.fly.2.2 p hp).1, fun k hk => hF k ((h.mid.fly.2.2 p hp).2 k hk)⟩⟩, hF _ h.mid.fg, hF _ h.mid.ft, hb⟩, h.len, h.put, h.got, h.nod, h.mem, Nat.le_trans h.lm hm⟩
theorem recol (col : Nat → Nat) (s : Nat) (P : Nat → Prop) (c : Nat) : ∃ col' : Nat → Nat, (∀ k, k < s → col' k = col k) ∧ (∀ k, s ≤ k → P k → col' k = c) ∧ (∀ k, s ≤ k → ¬ P k → col' k = 0) :=
  ⟨fun k => if k < s then col k else @ite _ (P k) (Classical.propDecidable _) c 0, fun k hk => if_pos hk, fun k hk hp => by simp only; rw [if_neg (by omega), if_pos hp], fun k hk hp => by simp only; rw [if_neg (by omega), if_neg hp]⟩
/-- how the blocks of a card may go on: those that were there are as they were -/
def Onto (w : World) (col col' : Nat → Nat) : Prop := ∀ k, k < w.heap.size → col' k = col k
section
variable {w w' : World} {base gm L b n gC : Nat} {M M' : List UInt8} {ci co ci' co' : VQ} {m m' gi go : Nat} {vi vo v' : Value} {hi ho hs : List Nat} {col : Nat → Nat}
theorem RCard.keep (h : RCard w base gm L b n gC M ci co m gi go vi vo hi ho col) (hb : Below w.heap.size w w') : RCard w' base gm L b n gC M ci co m gi go vi vo hi ho col :=
  ⟨h.tab.keep hb, h.qi.keep hb, h.qo.keep hb, own_below h.oi hb, own_below h.oo hb, h.ki, h.ko, h.cC, h.cm, h.mem.keep hb, h.len, fun k hk => ⟨(h.flt k hk).1, Nat.lt_of_lt_of_le (h.flt k hk).2 hb.size⟩, h.li, h.lo⟩
theorem RCard.frame {G : Nat → Prop} (h : RCard w base gm L b n gC M ci co m gi go vi vo hi ho col) (hf : Frame G w w') (hd : ∀ k, col k ≠ 0 → ¬ G k) : RCard w' base gm L b n gC M ci co m gi go vi vo hi ho col :=
  ⟨hf.blk h.tab (hd _ (by rw [h.cC]; decide)), h.qi.frame hf (fun k hk => hd k (by rw [hk]; decide)), h.qo.frame hf (fun k hk => hd k (by rw [hk]; decide)), hf.own h.oi (fun k hk => hd k (by rw [h.ki k hk]; decide)), hf.own h.oo (fun k hk => hd k (by rw [h.ko k hk]; decide)), h.ki, h.ko, h.cC, h.cm, h.mem.frame hf (hd _ (by rw [h.cm]; decide)), h.len, fun k hk => ⟨(h.flt k hk).1, Nat.lt_of_lt_of_le (h.flt k hk).2 hf.size⟩, h.li, h.lo⟩
/-- the memory alone was written, by whomever -/
theorem RCard.memG {G : Nat → Prop} (h : RCard w base gm L b n gC M ci co m gi go vi vo hi ho col) (hf : Frame G w w') (hd : ∀ k, col k ≠ 0 → col k ≠ 6 → ¬ G k) (hm : MemAt w' gm M') (hl : M'.length = L) : RCard w' base gm L b n gC M' ci co m gi go vi vo hi ho col :=
  ⟨hf.blk h.tab (hd _ (by rw [h.cC]; decide) (by rw [h.cC]; decide)), h.qi.frame hf (fun k hk => hd k (by rw [hk]; decide) (by rw [hk]; decide)), h.qo.frame hf (fun k hk => hd k (by rw [hk]; decide) (by rw [hk]; decide)), hf.own h.oi (fun k hk => hd k (by rw [h.ki k hk]; decide) (by rw [h.ki k hk]; decide)), hf.own h.oo (fun k hk => hd k (by rw [h.ko k hk]; decide) (by rw [h.ko k hk]; decide)), h.ki, h.ko, h.cC, h.cm, hm, hl, fun k hk => ⟨(h.flt k hk).1, Nat.lt_of_lt_of_le (h.flt k hk).2 hf.size⟩, h.li, h.lo⟩
theorem RCard.mem_ (h : RCard w base gm L b n gC M ci co m gi go vi vo hi ho col) (hf : Frame (fun k => k = gm) w w') (hm : MemAt w' gm M') (hl : M'.length = L) : RCard w' base gm L b n gC M' ci co m gi go vi vo hi ho col :=
  h.memG hf (fun k _ h6 e => h6 (e ▸ h.cm)) hm hl
/-- the driver of what comes in has gone on -/
theorem RCard.in_ {F' : Nat → Prop} (h : RCard w base gm L b n gC M ci co m gi go vi vo hi ho col) (hf : Frame (fun k => col k = 2 ∨ k = gm) w w') (hq : RDrv w' base gm L b n gi ci' m' F') (hF : ∀ k, F' k → col k = 2 ∨ w.heap.size ≤ k) (hm : MemAt w' gm M') (hl : M'.length = L) (hmm : m ≤ m') :
    ∃ col', RCard w' base gm L b n gC M' ci' co m' gi go vi vo hi ho col' ∧ Onto w col col' := by
  obtain ⟨col', e1, e2, e3⟩ := recol col w.heap.size F' 2
  have hold : ∀ k, col k ≠ 0 → col' k = col k := fun k hk => e1 k (h.flt k hk).2
  have hne : ∀ k c, col k = c → c ≠ 0 → c ≠ 2 → c ≠ 6 → ¬ (col k = 2 ∨ k = gm) := fun k c hk h0 h2 h6 e => e.elim (fun e => h2 (hk ▸ e)) (fun e => h6 (by rw [← hk, e, h.cm]))
  have h2 : ∀ k, col' k = 2 ↔ (F' k ∨ col k = 2) := fun k => by
    by_cases hk : k < w.heap.size
    · rw [e1 k hk]
      exact ⟨.inr, fun e => e.elim (fun e => (hF k e).elim id (fun e => by omega)) id⟩
    · by_cases hp : F' k
      · exact ⟨fun _ => .inl hp, fun _ => e2 k (by omega) hp⟩
      · rw [e3 k (by omega) hp]
        exact ⟨fun e => absurd e (by decide), fun e => e.elim (fun e => absurd e hp) (fun e => by have := (h.flt k (by rw [e]; decide)).2; omega)⟩
  have h3 : ∀ k, col' k ≠ 0 → col' k ≠ 2 → k < w.heap.size := fun k h0 h2' => Classical.byContradiction fun hk => by
    by_cases hp : F' k
    · exact h2' (e2 k (by omega) hp)
    · exact h0 (e3 k (by omega) hp)
  have hbd : ∀ k, col' k ≠ 0 → base ≤ k ∧ k < w'.heap.size := fun k hk => by
    by_cases hc : col' k = 2
    · rcases (h2 k).1 hc with e | e
      · exact hq.bd k e
      · exact ⟨(h.flt k (by rw [e]; decide)).1, Nat.lt_of_lt_of_le (h.flt k (by rw [e]; decide)).2 hf.size⟩
    · have hlt := h3 k hk hc
      rw [e1 k hlt] at hk
      exact ⟨(h.flt k hk).1, Nat.lt_of_lt_of_le hlt hf.size⟩
  refine ⟨col', ⟨hf.blk h.tab (hne _ 1 h.cC (by decide) (by decide) (by decide)), hq.mono (Nat.le_refl _) (fun k hk => (h2 k).2 (.inl hk)) (fun k hk => hbd k (by rw [hk]; decide)),
    (h.qo.frame hf (fun k hk => hne k 3 hk (by decide) (by decide) (by decide))).mono hmm (fun k hk => by rw [hold k (by rw [hk]; decide)]; exact hk) (fun k hk => hbd k (by rw [hk]; decide)),
    hf.own h.oi (fun k hk => hne k 4 (h.ki k hk) (by decide) (by decide) (by decide)), hf.own h.oo (fun k hk => hne k 5 (h.ko k hk) (by decide) (by decide) (by decide)),
    fun k hk => by rw [hold k (by rw [h.ki k hk]; decide)]; exact h.ki k hk, fun k hk => by rw [hold k (by rw [h.ko k hk]; decide)]; exact h.ko k hk, by rw [hold _ (by rw [h.cC]; decide)]; exact h.cC, by rw [hold _ (by rw [h.cm]; decide)]; exact h.cm, hm, hl, hbd, Nat.le_trans h.li hmm, Nat.le_trans h.lo hmm⟩, e1⟩
/-- the driver of what goes out has gone on -/
theorem RCard.out_ {F' : Nat → Prop} (h : RCard w base gm L b n gC M ci co m gi go vi vo hi ho col) (hf : Frame (fun k => col k = 3 ∨ k = gm) w w') (hq : RDrv w' base gm L (b + vSize n) n go co' m' F') (hF : ∀ k, F' k → col k = 3 ∨ w.heap.size ≤ k) (hm : MemAt w' gm M') (hl : M'.length = L) (hmm : m ≤ m') :
    ∃ col', RCard w' base gm L b n gC M' ci co' m' gi go vi vo hi ho col' ∧ Onto w col col' := by
  obtain ⟨col', e1, e2, e3⟩ := recol col w.heap.size F' 3
  have hold : ∀ k, col k ≠ 0 → col' k = col k := fun k hk => e1 k (h.flt k hk).2
  have hne : ∀ k c, col k = c → c ≠ 0 → c ≠ 3 → c ≠ 6 → ¬ (col k = 3 ∨ k = gm) := fun k c hk h0 h2 h6 e => e.elim (fun e => h2 (hk ▸ e)) (fun e => h6 (by rw [← hk, e, h.cm]))
  have h2 : ∀ k, col' k = 3 ↔ (F' k ∨ col k = 3) := fun k => by
    by_cases hk : k < w.heap.size
    · rw [e1 k hk]
      exact ⟨.inr, fun e => e.elim (fun e => (hF k e).elim id (fun e => by omega)) id⟩
    · by_cases hp : F' k
      · exact ⟨fun _ => .inl hp, fun _ => e2 k (by omega) hp⟩
      · rw [e3 k (by omega) hp]
        exact ⟨fun e => absurd e (by decide), fun e => e.elim (fun e => absurd e hp) (fun e => by have := (h.flt k (by rw [e]; decide)).2; omega)⟩
  have h3 : ∀ k, col' k ≠ 0 → col' k ≠ 3 → k < w.heap.size := fun k h0 h2' => Classical.byContradiction fun hk => by
    by_cases hp : F' k
    · exact h2' (e2 k (by omega) hp)
    · exact h0 (e3 k (by omega) hp)
  have hbd : ∀ k, col' k ≠ 0 → base ≤ k ∧ k < w'.heap.size := fun k hk => by
    by_cases hc : col' k = 3
    · rcases (h2 k).1 hc with e | e
      · exact hq.bd k e
      · exact ⟨(h.flt k (by rw [e]; decide)).1, Nat.lt_of_lt_of_le (h.flt k (by rw [e]; decide)).2 hf.size⟩
    · have hlt := h3 k hk hc
      rw [e1 k hlt] at hk
      exact ⟨(h.flt k hk).1, Nat.lt_of_lt_of_le hlt hf.size⟩
  refine ⟨col', ⟨hf.blk h.tab (hne _ 1 h.cC (by decide) (by decide) (by decide)), (h.qi.frame hf (fun k hk => hne k 2 hk (by decide) (by decide) (by decide))).mono hmm (fun k hk => by rw [hold k (by rw [hk]; decide)]; exact hk) (fun k hk => hbd k (by rw [hk]; decide)),
    hq.mono (Nat.le_refl _) (fun k hk => (h2 k).2 (.inl hk)) (fun k hk => hbd k (by rw [hk]; decide)),
    hf.own h.oi (fun k hk => hne k 4 (h.ki k hk) (by decide) (by decide) (by decide)), hf.own h.oo (fun k hk => hne k 5 (h.ko k hk) (by decide) (by decide) (by decide)),
    fun k hk => by rw [hold k (by rw [h.ki k hk]; decide)]; exact h.ki k hk, fun k hk => by rw [hold k (by rw [h.ko k hk]; decide)]; exact h.ko k hk, by rw [hold _ (by rw [h.cC]; decide)]; exact h.cC, by rw [hold _ (by rw [h.cm]; decide)]; exact h.cm, hm, hl, hbd, Nat.le_trans h.li hmm, Nat.le_trans h.lo hmm⟩, e1⟩
/-- the row of places of what comes in is another one: w is where the card was, w' where the row is made -/
theorem RCard.inl_ (h : RCard w base gm L b n gC M ci co m gi go vi vo hi ho col) (hf : Frame (fun k => vi.ownBlock = some k) w w') (ho' : OffAt w' base v' hs) (hv : ∀ k, v'.ownBlock = some k → vi.ownBlock = some k ∨ w.heap.size ≤ k) (hl : hs.length ≤ m) :
    ∃ col', RCard (w'.setCell ⟨gC, 5, none⟩ v') base gm L b n gC M ci co m gi go v' vo hs ho col' ∧ Onto w col col' := by
  obtain ⟨col', e1, e2, e3⟩ := recol col w.heap.size (fun k => v'.ownBlock = some k) 4
  have hold : ∀ k, col k ≠ 0 → col' k = col k := fun k hk => e1 k (h.flt k hk).2
  have hne : ∀ k, col k ≠ 0 → col k ≠ 4 → ¬ vi.ownBlock = some k := fun k _ h4 e => h4 (h.ki k e)
  have t' := hf.blk h.tab (hne _ (by rw [h.cC]; decide) (by rw [h.cC]; decide))
  have hs2 := grown_set w' gC 5 v'
  have fs := frame_mem hs2
  have hbd : ∀ k, col' k ≠ 0 → base ≤ k ∧ k < w'.heap.size := fun k hk => by
    by_cases hlt : k < w.heap.size
    · rw [e1 k hlt] at hk
      exact ⟨(h.flt k hk).1, Nat.lt_of_lt_of_le hlt hf.size⟩
    · by_cases hp : v'.ownBlock = some k
      · exact World.ownsRow.lt ho' k hp
      · exact absurd (e3 k (by omega) hp) hk
  have hbd2 : ∀ k, col' k ≠ 0 → base ≤ k ∧ k < (w'.setCell ⟨gC, 5, none⟩ v').heap.size := fun k hk => ⟨(hbd k hk).1, Nat.lt_of_lt_of_le (hbd k hk).2 fs.size⟩
  have q2 := (h.qi.frame hf (fun k hk => hne k (by rw [hk]; decide) (by rw [hk]; decide))).frame fs (fun k hk e => by rw [e, h.cC] at hk; cases hk)
  have q3 := (h.qo.frame hf (fun k hk => hne k (by rw [hk]; decide) (by rw [hk]; decide))).frame fs (fun k hk e => by rw [e, h.cC] at hk; cases hk)
  refine ⟨col', ⟨t'.set_ 5 v', q2.mono (Nat.le_refl _) (fun k hk => by rw [hold k (by rw [hk]; decide)]; exact hk) (fun k hk => hbd2 k (by rw [hk]; decide)), q3.mono (Nat.le_refl _) (fun k hk => by rw [hold k (by rw [hk]; decide)]; exact hk) (fun k hk => hbd2 k (by rw [hk]; decide)),
    fs.own ho' (own_blk_ne ho' t' (by decide)), fs.own (hf.own h.oo (fun k hk => hne k (by rw [h.ko k hk]; decide) (by rw [h.ko k hk]; decide))) (fun k hk e => by have := h.ko k hk; rw [e, h.cC] at this; cases this),
    fun k hk => ?_, fun k hk => by rw [hold k (by rw [h.ko k hk]; decide)]; exact h.ko k hk, by rw [hold _ (by rw [h.cC]; decide)]; exact h.cC, by rw [hold _ (by rw [h.cm]; decide)]; exact h.cm,
    (h.mem.frame hf (hne _ (by rw [h.cm]; decide) (by rw [h.cm]; decide))).frame fs (fun e => by have := h.cm; rw [e, h.cC] at this; cases this), h.len, hbd2, hl, h.lo⟩, e1⟩
  rcases hv k hk with e | e
  · rw [hold k (by rw [h.ki k e]; decide)]
    exact h.ki k e
  · exact e2 k e hk
/-- the row of places of what goes out is another one -/
theorem RCard.outl_ (h : RCard w base gm L b n gC M ci co m gi go vi vo hi ho col) (hf : Frame (fun k => vo.ownBlock = some k) w w') (ho' : OffAt w' base v' hs) (hv : ∀ k, v'.ownBlock = some k → vo.ownBlock = some k ∨ w.heap.size ≤ k) (hl : hs.length ≤ m) :
    ∃ col', RCard (w'.setCell ⟨gC, 6, none⟩ v') base gm L b n gC M ci co m gi go vi v' hi hs col' ∧ Onto w col col' := by
  obtain ⟨col', e1, e2, e3⟩ := recol col w.heap.size (fun k => v'.ownBlock = some k) 5
  have hold : ∀ k, col k ≠ 0 → col' k = col k := fun k hk => e1 k (h.flt k hk).2
  have hne : ∀ k, col k ≠ 0 → col k ≠ 5 → ¬ vo.ownBlock = some k := fun k _ h4 e => h4 (h.ko k e)
  have t' := hf.blk h.tab (hne _ (by rw [h.cC]; decide) (by rw [h.cC]; decide))
  have hs2 := grown_set w' gC 6 v'
  have fs := frame_mem hs2
  have hbd : ∀ k, col' k ≠ 0 → base ≤ k ∧ k < w'.heap.size := fun k hk => by
    by_cases hlt : k < w.heap.size
    · rw [e1 k hlt] at hk
      exact ⟨(h.flt k hk).1, Nat.lt_of_lt_of_le hlt hf.size⟩
    · by_cases hp : v'.ownBlock = some k
      · exact World.ownsRow.lt ho' k hp
      · exact absurd (e3 k (by omega) hp) hk
  have hbd2 : ∀ k, col' k ≠ 0 → base ≤ k ∧ k < (w'.setCell ⟨gC, 6, none⟩ v').heap.size := fun k hk => ⟨(hbd k hk).1, Nat.lt_of_lt_of_le (hbd k hk).2 fs.size⟩
  have q2 := (h.qi.frame hf (fun k hk => hne k (by rw [hk]; decide) (by rw [hk]; decide))).frame fs (fun k hk e => by rw [e, h.cC] at hk; cases hk)
  have q3 := (h.qo.frame hf (fun k hk => hne k (by rw [hk]; decide) (by rw [hk]; decide))).frame fs (fun k hk e => by rw [e, h.cC] at hk; cases hk)
  refine ⟨col', ⟨t'.set_ 6 v', q2.mono (Nat.le_refl _) (fun k hk => by rw [hold k (by rw [hk]; decide)]; exact hk) (fun k hk => hbd2 k (by rw [hk]; decide)), q3.mono (Nat.le_refl _) (fun k hk => by rw [hold k (by rw [hk]; decide)]; exact hk) (fun k hk => hbd2 k (by rw [hk]; decide)),
    fs.own (hf.own h.oi (fun k hk => hne k (by rw [h.ki k hk]; decide) (by rw [h.ki k hk]; decide))) (fun k hk e => by have := h.ki k hk; rw [e, h.cC] at this; cases this), fs.own ho' (own_blk_ne ho' t' (by decide)),
    fun k hk => by rw [hold k (by rw [h.ki k hk]; decide)]; exact h.ki k hk, fun k hk => ?_, by rw [hold _ (by rw [h.cC]; decide)]; exact h.cC, by rw [hold _ (by rw [h.cm]; decide)]; exact h.cm,
    (h.mem.frame hf (hne _ (by rw [h.cm]; decide) (by rw [h.cm]; decide))).frame fs (fun e => by have := h.cm; rw [e, h.cC] at this; cases this), h.len, hbd2, h.li, hl⟩, e1⟩
  rcases hv k hk with e | e
  · rw [hold k (by rw [h.ko k e]; decide)]
    exact h.ko k e
  · exact e2 k e hk
end
end
end Go.Proofs.Ytgiegiobigdplaa
