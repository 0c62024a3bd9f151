/- How long a queue and a card are; where they may lie; the ring's places. -/
import Derived.Test.YtgiegiobigdplaaRowAt
import Derived.Test.YtgiegiobigdplaaVnS
import Derived.Test.YtgiegiobigdplaaNumC
import Derived.Test.YtgiegiobigdplaaNumH
import Derived.Test.YtgiegiobigdplaaNumS
import Derived.Deep.DrawnRows
import Derived.Deep.LoopGhost
namespace Go.Proofs.Ytgiegiobigdplaa
section
section
open Go Go.RowKit

/-- w' is w with new blocks; of the old ones F's alone may have been written -/
structure Frame (F : Nat → Prop) (w w' : World) : Prop where
  os : w'.os = w.os
  tape : w'.tape = w.tape
  output : w'.output = w.output
  size : w.heap.size ≤ w'.heap.size
  block : ∀ k, k < w.heap.size → ¬ F k → w'.heap[k]? = w.heap[k]?
theorem Frame.refl (F : Nat → Prop) (w : World) : Frame F w w := ⟨rfl, rfl, rfl, Nat.le_refl _, fun _ _ _ => rfl⟩
theorem Frame.trans {F F' : Nat → Prop} {a b c : World} (h : Frame F a b) (k : Frame F' b c) (hF : ∀ i, i < a.heap.size → F' i → F i) : Frame F a c :=
  ⟨k.os.trans h.os, k.tape.trans h.tape, k.output.trans h.output, Nat.le_trans h.size k.size, fun i hi hn => (k.block i (Nat.lt_of_lt_of_le hi h.size) (fun hf => hn (hF i hi hf))).trans (h.block i hi hn)⟩
theorem Below.frameF {w w' : World} (h : Below w.heap.size w w') (F : Nat → Prop) : Frame F w w' := ⟨h.os, h.tape, h.output, h.size, fun i hi _ => h.block i hi⟩
theorem frame_grown {F : Nat → Prop} {w w' : World} {row : Option Nat} (h : w.grownBy w' row) (hF : ∀ g, row = some g → F g) : Frame F w w' :=
  ⟨h.os, h.tape, h.output, h.size, fun i hi hn => h.block i hi (fun e => hn (hF i e.symm))⟩
theorem Frame.below {F : Nat → Prop} {w w' : World} {base : Nat} (h : Frame F w w') (hF : ∀ k, F k → base ≤ k) (hb : base ≤ w.heap.size) : Below base w w' :=
  ⟨h.os, h.tape, h.output, h.size, fun i hi => h.block i (Nat.lt_of_lt_of_le hi hb) (fun hf => by have := hF i hf; omega)⟩
theorem Frame.blk {F : Nat → Prop} {w w' : World} {g : Nat} {t : TypeId} {xs : List Value} (h : Frame F w w') (hb : Blk w g t xs) (hn : ¬ F g) : Blk w' g t xs := (h.block g hb.lt hn).trans hb
theorem Frame.weaken {F F' : Nat → Prop} {w w' : World} (h : Frame F w w') (hF : ∀ i, i < w.heap.size → F i → F' i) : Frame F' w w' :=
  ⟨h.os, h.tape, h.output, h.size, fun i hi hn => h.block i hi (fun hf => hn (hF i hi hf))⟩
theorem Frame.own {F : Nat → Prop} {w w' : World} {base size n : Nat} {e : TypeId} {v : Value} {xs : List Value} (h : Frame F w w') (ho : w.ownsRow base e size v n xs) (hn : ∀ g, v.ownBlock = some g → ¬ F g) : w'.ownsRow base e size v n xs := by
  refine ⟨ho.1, ?_⟩
  rcases ho.2 with h0 | ⟨g, cap, cur, rfl, h1, h2, h3⟩
  · exact .inl h0
  · exact .inr ⟨g, cap, cur, rfl, h1, (h.block g (Array.getElem?_eq_some_iff.1 h2).1 (hn g rfl)).trans h2, h3⟩
theorem RowAtS.same {w w' : World} {base size n : Nat} {e : TypeId} {v : Value} {xs : List Value} (h : RowAtS w base e size v n xs) (hs : ∀ g, v.ownBlock = some g → w'.heap[g]? = w.heap[g]?) : RowAtS w' base e size v n xs := by
  refine ⟨h.1, ?_⟩
  rcases h.2 with h0 | ⟨g, off, cap, cur, rfl, h1, h2, h3⟩
  · exact .inl h0
  · exact .inr ⟨g, off, cap, cur, rfl, h1, (hs g rfl).trans h2, h3⟩
end
section
open Go Go.RowKit
attribute [local go_sem ↓] Go.wp_at_zero Go.wp_at_succ
set_option maxRecDepth 100000
set_option linter.unusedSimpArgs false

/-- the memory, a block by itself -/
def MemAt (w : World) (g : Nat) (M : List UInt8) : Prop := Blk w g 5 (M.map u8v)
theorem cutA_at (g off cap l : Nat) (h : l < cap) : cutA (some ⟨g, off, none⟩) cap l 1 = some ⟨g, off + l, none⟩ := by
  unfold cutA
  rw [if_neg (by omega), Nat.mul_one]
  simp only [Option.map_some, Addr.add]
  split
  · rename_i h0
    subst h0
    rfl
  · rfl
section
variable {w w' : World} {g : Nat} {M : List UInt8}
theorem MemAt.keep (h : MemAt w g M) (hb : Below w.heap.size w w') : MemAt w' g M := Blk.keep h hb
theorem MemAt.frame {F : Nat → Prop} (h : MemAt w g M) (hf : Frame F w w') (hn : ¬ F g) : MemAt w' g M := hf.blk h hn
/-- a piece of it, as bytes -/
theorem MemAt.bs (h : MemAt w g M) {off n cap : Nat} (hn : off + n ≤ M.length) (h1 : n ≤ cap) (h2 : cap ≤ maxLen) : Bs w (.slice (some ⟨g, off, none⟩) n cap) ((M.drop off).take n) :=
  Blk.bs h (by rw [← List.map_drop, ← List.map_take]) (by rw [List.length_take, List.length_drop]; omega) h1 h2
/-- a piece is copied into it -/
theorem patch_map (M b : List UInt8) (p : Nat) : (M.map u8v).take p ++ (b.map u8v ++ (M.map u8v).drop (p + b.length)) = (patch M p b).map u8v := by
  unfold patch
  rw [List.map_append, List.map_append, List.map_take, List.map_drop]
end
theorem frame_mem {w w' : World} {g : Nat} (h : w.grownBy w' (some g)) : Frame (fun k => k = g) w w' := frame_grown h (fun k hk => by injection hk with hk; exact hk.symm)
/-- a number of a piece of memory -/
theorem cut_mem (M : List UInt8) (b S p k : Nat) (hk : okSize (k : Int) = true) (hb : b + S ≤ M.length) (hp : p + k ≤ S) : cutOf ((M.drop b).take S) (p : Int) (k : Int) = ((M.drop (b + p)).take k, 0) := by
  have hl : ((M.drop b).take S).length = S := by rw [List.length_take, List.length_drop]; omega
  unfold cutOf
  rw [if_pos hk, if_neg (by rw [hl]; omega), Int.toNat_natCast, Int.toNat_natCast, List.drop_take, List.drop_drop, List.take_take, Nat.min_eq_left (by omega)]
theorem run_cut_lmax {P : Program} {T E : TypeId} {i : TypeInfo} (ht : P.underlying T = some (.slice E)) (hi : P.info? E = some i) (A : Option Addr) (n cap : Nat) (k1 k2 k3 : IntKind) (lo hi' : Int) (l k : Nat)
    (h1 : lo = l) (h2 : hi' = l + k) (h3 : l + k ≤ cap) (h4 : 0 < k) (w : World) :
    (Instr.sliceAt T (.slice A n cap) (some (.int k1 lo)) (some (.int k2 hi')) (some (.int k3 hi'))).run P w = .ok (.slice (A.map (·.add (l * i.size))) k k) w := by
  subst h1; subst h2
  have a1 : (0 : Int) ≤ (l : Int) + (k : Int) ∧ (l : Int) + (k : Int) ≤ (cap : Int) := by omega
  have a2 : ((l : Int) + (k : Int)).toNat = l + k := by omega
  have a3 : ¬ (l + k - l = 0) := by omega
  have a4 : l + k - l = k := by omega
  simp [Instr.sliceAt, Instr.slice, run_underlying ht, Instr.sliceBounds, Instr.sliceBound, asIntOf, sizeOf, typeInfo, hi, a1, a2, a3, a4]
  omega

/-! ### the program's -/
theorem get_at (g gm b S : Nat) (M : List UInt8) (p k : Nat) (w : World) (hm : MemAt w gm M) (hb : b + S ≤ M.length) (hp : p + k ≤ S) (hk : okSize (k : Int) = true) (hS : S ≤ 100000) (c0 : w.cell? ⟨g, 0, none⟩ = some (.slice (some ⟨gm, b, none⟩) S S)) :
    Calls Try.prog 58 #[.pointer (some ⟨g, 0, none⟩), .int .i64 (p : Int), .int .i64 (k : Int)] w fun e w' => e = .returned (.int .u64 (leAt M (b + p) k : Int)) ∧ w' = w := by
  have HB := hid (hm.bs (off := b) (n := S) (cap := S) hb (Nat.le_refl _) (by simp only [maxLen]; omega))
  have HC := hid (cut_mem M b S p k hk hb hp)
  have hpS : p ≤ 100000 := by omega
  have HL := hid (le_any (.slice (some ⟨gm, b, none⟩) S S) ((M.drop b).take S) (p : Int) (k : Int) w HB.out (by omega) (by omega))
  clear hm hb hp hk
  go_enter Try.func58, Try.ntmps58
  go_wp2_with (go_at_call 65; refine HL.out.mono ?_; rintro e w' ⟨rfl, rfl⟩; rw [HC.out])
  go_ret
  exact ⟨rfl, rfl⟩
def SetPost (gm : Nat) (M : List UInt8) (w : World) (e : Ending) (w' : World) : Prop := (∃ u, e = .returned u) ∧ MemAt w' gm M ∧ Frame (fun k => k = gm) w w'
theorem set_at (g gm b S : Nat) (M : List UInt8) (p k v : Nat) (w : World) (hm : MemAt w gm M) (hb : b + S ≤ M.length) (hp : p + k ≤ S) (hk : okSize (k : Int) = true) (hv : v < 256 ^ k) (c0 : w.cell? ⟨g, 0, none⟩ = some (.slice (some ⟨gm, b, none⟩) S S)) :
    Calls Try.prog 62 #[.pointer (some ⟨g, 0, none⟩), .int .i64 (p : Int), .int .i64 (k : Int), .int .u64 (v : Int)] w (SetPost gm (putAt M (b + p) k v) w) := by
  have hk8 : k ≤ 8 := by have := okSize_le hk; omega
  have hk1 : 1 ≤ k := by have := okSize_le hk; omega
  have hv64 : v < 18446744073709551616 := Nat.lt_of_lt_of_le hv (by
    have : 256 ^ k ≤ 256 ^ 8 := Nat.pow_le_pow_right (by decide) hk8
    exact this)
  have HU := hid (u64_lit (w := w) (e := 128) (mk := (0, 0)) #[.int .u64 (v : Int)] [v] 1 w.heap.size rfl rfl (by decide) rfl (by intro x hx; simp at hx; subst hx; exact hv64))
  have HP := hid (put_fits leBytes [] (k : Int) k [v] rfl hk (by intro x hx; simp at hx; subst hx; exact hv))
  have HM := hid (hm.keep (below_alloc w (.cells #[.int .u64 (v : Int)] 128)))
  have HB := hid (below_alloc w (.cells #[.int .u64 (v : Int)] 128))
  have c1 := cell_below (below_alloc w (.cells #[.int .u64 (v : Int)] 128)) c0
  have Hlen := hid (show b + S ≤ M.length from hb)
  have Hpk := hid (show p + k ≤ S from hp)
  have Hkl := hid (leBytes_len k v)
  obtain ⟨ii, hii, hz, hss, hbyy⟩ := info_parts u8info
  have hcut := run_cut_from (P := Try.prog) (T := 25) Try.underlying25 hii (some ⟨gm, b, none⟩) S S .i64 (p : Int) p (S - p) rfl (by omega) (Nat.le_refl _)
  rw [hss, cutA_at gm b S p (by omega)] at hcut
  clear hii hz hss hbyy hm hb hk hv c0
  go_enter Try.func62, Try.ntmps62
  go_wp2_with (first
    | (go_at_call 66; refine (putLe_any (.slice none 0 0) [] (k : Int) _ [v] _ (Bs.nil _) HU.out (by simp)).mono ?_; rintro e w2 ⟨v2, rfl, ho, hb2⟩; rw [HP.out] at ho ⊢; have Ho2 := hid (show Bs w2 v2 (leBytes k v) from by have := ho.bs; simpa using this); have M2 := hid (HM.out.keep hb2); have Hb2 := hid (HB.out.trans (hb2.mono HB.out.size)); have c2 := cell_below hb2 c1; clear ho hb2)
    | ((with_reducible show wpList _ _ _ (Oper.mk (some 24) _ _ _ _ _ :: _) _ _); refine wpList_copyBs rfl _ _ 25 rfl 5 u8ok gm (b + p) (S - p) (S - p) rfl _ (leBytes k v) rfl Ho2.out _ 5 M2.out (by have := Hlen.out; have := Hpk.out; rw [List.length_map]; omega) ?_; intro w3 hblk hg3 hsz3; have B3 := hid hblk; have Hg3 := hid hg3; clear hblk hg3 hsz3))
  go_end0
  have ht : (leBytes k v).take (S - p) = leBytes k v := List.take_of_length_le (by rw [Hkl.out]; have := Hpk.out; omega)
  have h3 := B3.out
  rw [ht] at h3
  refine ⟨⟨_, rfl⟩, ?_, (Below.frameF Hb2.out _).trans (frame_mem Hg3.out) (fun _ _ h => h)⟩
  show Blk _ _ _ _
  rw [← show _ = (putAt M (b + p) k v).map u8v from patch_map M (leBytes k v) (b + p)]
  exact h3
end
end
section
open Go Go.RowKit
attribute [local go_sem ↓] Go.wp_at_zero Go.wp_at_succ
set_option maxRecDepth 100000
set_option linter.unusedSimpArgs false

/-- may a queue have so many? -/
def okN (n : Int) : Bool := n == 1 || n == 2 || n == 4 || n == 8 || n == 16 || n == 32 || n == 64 || n == 128 || n == 256
theorem okN_iff {n : Int} : okN n = true ↔ n = 1 ∨ n = 2 ∨ n = 4 ∨ n = 8 ∨ n = 16 ∨ n = 32 ∨ n = 64 ∨ n = 128 ∨ n = 256 := by
  unfold okN
  simp [or_assoc]
theorem okN_le {n : Int} (h : okN n = true) : 1 ≤ n ∧ n ≤ 256 := by have := okN_iff.1 h; omega
theorem okN_and : ∀ k : Fin 257, 1 ≤ k.val → (bits .and .i64 (k.val : Int) ((k.val : Int) - 1) != 0) = !(okN (k.val : Int)) := by decide +kernel
def vSizeI (n : Int) : Int := if okN n then 8 + 26 * n else 0
def vAreaI (n : Int) : Int := if okN n then 2 * (8 + 26 * n) + 2 * n * 1528 else 0
/-- may a card lie there? -/
def vFits (L : Nat) (base n : Int) : Bool := okN n && decide (0 ≤ base) && decide (base + vAreaI n ≤ (L : Int))
theorem vSizeI_of {n : Nat} (h : okN (n : Int) = true) : vSizeI (n : Int) = (vSize n : Int) := by unfold vSizeI vSize; rw [if_pos h]; omega
theorem vAreaI_of {n : Nat} (h : okN (n : Int) = true) : vAreaI (n : Int) = (vArea n : Int) := by unfold vAreaI vArea vSize; rw [if_pos h]; omega

theorem vsize_any (n : Int) (w : World) : Calls Try.prog 25 #[.int .i64 n] w fun e w' => e = .returned (.int .i64 (vSizeI n)) ∧ w' = w := by
  by_cases h1 : n < 1
  · have HR := hid (show vSizeI n = 0 by unfold vSizeI; rw [if_neg]; intro h; have := okN_le h; omega)
    go_enter Try.func25, Try.ntmps25
    go_wp2_with fail
    go_ret
    rw [HR.out]
    exact ⟨rfl, rfl⟩
  by_cases h2 : n > 256
  · have HR := hid (show vSizeI n = 0 by unfold vSizeI; rw [if_neg]; intro h; have := okN_le h; omega)
    go_enter Try.func25, Try.ntmps25
    go_wp2_with fail
    go_ret
    rw [HR.out]
    exact ⟨rfl, rfl⟩
  obtain ⟨k, rfl⟩ : ∃ k : Nat, n = k := ⟨n.toNat, by omega⟩
  have hk := okN_and ⟨k, by omega⟩ (by show 1 ≤ k; omega)
  simp only at hk
  cases hok : okN (k : Int) with
  | true =>
    have HR := hid (show vSizeI (k : Int) = 8 + 26 * (k : Int) by unfold vSizeI; rw [if_pos hok])
    rw [hok] at hk
    clear hok
    have hk : (bits .and .i64 (k : Int) ((k : Int) - 1) != 0) = false := hk
    go_enter Try.func25, Try.ntmps25
    go_wp2_with fail
    go_ret
    rw [HR.out]
    exact ⟨rfl, rfl⟩
  | false =>
    have HR := hid (show vSizeI (k : Int) = 0 by unfold vSizeI; rw [hok]; rfl)
    rw [hok] at hk
    clear hok
    have hk : (bits .and .i64 (k : Int) ((k : Int) - 1) != 0) = true := hk
    go_enter Try.func25, Try.ntmps25
    go_wp2_with fail
    go_ret
    rw [HR.out]
    exact ⟨rfl, rfl⟩
theorem varea_any (n : Int) (w : World) : Calls Try.prog 8 #[.int .i64 n] w fun e w' => e = .returned (.int .i64 (vAreaI n)) ∧ w' = w := by
  have HS := hid (vsize_any n w)
  cases hok : okN n with
  | true =>
    have HA := hid (show vAreaI n = 2 * (8 + 26 * n) + 2 * n * 1528 by unfold vAreaI; rw [hok]; rfl)
    have HV := hid (show vSizeI n = 8 + 26 * n by unfold vSizeI; rw [hok]; rfl)
    have hb := okN_le hok
    rw [HV.out] at HS
    clear hok
    have hz : (8 + 26 * n == 0) = false := beq_eq_false_iff_ne.2 (by omega)
    go_enter Try.func8, Try.ntmps8
    go_wp2_with (go_at_call 25; refine HS.out.mono ?_; rintro e w' ⟨rfl, rfl⟩)
    go_ret
    rw [HA.out]
    exact ⟨rfl, rfl⟩
  | false =>
    have HA := hid (show vAreaI n = 0 by unfold vAreaI; rw [hok]; rfl)
    have HV := hid (show vSizeI n = 0 by unfold vSizeI; rw [hok]; rfl)
    rw [HV.out] at HS
    clear hok
    go_enter Try.func8, Try.ntmps8
    go_wp2_with (go_at_call 25; refine HS.out.mono ?_; rintro e w' ⟨rfl, rfl⟩)
    go_ret
    rw [HA.out]
    exact ⟨rfl, rfl⟩
theorem vfits_any (A : Option Addr) (L cap : Nat) (base n : Int) (w : World) (hL : L ≤ 1000000) :
    Calls Try.prog 27 #[.slice A L cap, .int .i64 base, .int .i64 n] w fun e w' => e = .returned (.bool (vFits L base n)) ∧ w' = w := by
  have HS := hid (varea_any n w)
  cases hok : okN n with
  | true =>
    obtain ⟨ar, har⟩ : ∃ x, vAreaI n = x := ⟨_, rfl⟩
    have hb := okN_le hok
    have ha : 0 < ar ∧ ar ≤ 800000 := by rw [← har]; unfold vAreaI; rw [if_pos hok]; omega
    have HR := hid (show vFits L base n = (decide (0 ≤ base) && decide (base + ar ≤ (L : Int))) by unfold vFits; rw [hok, har]; simp)
    rw [har] at HS
    have ha1 : ar > 0 := ha.1
    clear hok har
    by_cases h0 : 0 ≤ base
    · have h0' : base ≥ 0 := h0
      have HR := hid (show vFits L base n = decide (base ≤ (L : Int) - ar) by rw [HR.out, decide_eq_true h0, Bool.true_and]; exact decide_eq_decide.2 (by omega))
      go_enter Try.func27, Try.ntmps27
      go_wp2_with (go_at_call 8; refine HS.out.mono ?_; rintro e w' ⟨rfl, rfl⟩)
      go_ret
      rw [HR.out]
      exact ⟨rfl, rfl⟩
    · have h0' : ¬ base ≥ 0 := h0
      have HR := hid (show vFits L base n = false by rw [HR.out]; simp [h0])
      go_enter Try.func27, Try.ntmps27
      go_wp2_with (go_at_call 8; refine HS.out.mono ?_; rintro e w' ⟨rfl, rfl⟩)
      go_ret
      rw [HR.out]
      exact ⟨rfl, rfl⟩
  | false =>
    have HR := hid (show vFits L base n = false by unfold vFits; rw [hok]; rfl)
    have HV := hid (show vAreaI n = 0 by unfold vAreaI; rw [hok]; rfl)
    rw [HV.out] at HS
    clear hok
    go_enter Try.func27, Try.ntmps27
    go_wp2_with (go_at_call 8; refine HS.out.mono ?_; rintro e w' ⟨rfl, rfl⟩)
    go_ret
    rw [HR.out]
    exact ⟨rfl, rfl⟩
theorem vavail_at (g n : Nat) (w : World) (hn : n ≤ 256) (c1 : w.cell? ⟨g, 1, none⟩ = some (.int .i64 (n : Int))) :
    Calls Try.prog 59 #[.pointer (some ⟨g, 0, none⟩)] w fun e w' => e = .returned (.int .i64 (16 * (n : Int))) ∧ w' = w := by
  go_enter Try.func59, Try.ntmps59
  go_wp2_with fail
  go_ret
  exact ⟨rfl, rfl⟩
theorem vback_at (g n : Nat) (w : World) (hn : n ≤ 256) (c1 : w.cell? ⟨g, 1, none⟩ = some (.int .i64 (n : Int))) :
    Calls Try.prog 61 #[.pointer (some ⟨g, 0, none⟩)] w fun e w' => e = .returned (.int .i64 (18 * (n : Int) + 4)) ∧ w' = w := by
  go_enter Try.func61, Try.ntmps61
  go_wp2_with fail
  go_ret
  exact ⟨rfl, rfl⟩
theorem vnext_at (k : Nat) (w : World) (hk : k < 65536) :
    Calls Try.prog 60 #[.int .i64 (k : Int)] w fun e w' => e = .returned (.int .i64 (((k + 1) % 65536 : Nat) : Int)) ∧ w' = w := by
  have hv : ((k : Int) + 1) % 65536 = (((k + 1) % 65536 : Nat) : Int) := by omega
  have Hv := hid hv
  clear hv
  go_enter Try.func60, Try.ntmps60
  go_wp2_with fail
  go_ret
  first
    | exact ⟨congrArg (fun x => Ending.returned (Value.int .i64 x)) Hv.out, rfl⟩
    | (refine ⟨?_, rfl⟩; rw [← Hv.out])
theorem rvsize_any (n : Int) (w : World) : Calls Try.prog 26 #[.int .i64 n] w fun e w' => e = .returned (.int .i64 (vSizeI n)) ∧ w' = w := by
  go_enter Try.func26, Try.ntmps26
  go_wp2_with fail
  go_loopg [3] 1000 (fun gk s3 wx => ∃ k : Nat, gk + k = 1001 ∧ s3 = .int .i64 (k : Int) ∧ (k = 1 ∨ k = 2 ∨ k = 4 ∨ k = 8 ∨ k = 16 ∨ k = 32 ∨ k = 64 ∨ k = 128 ∨ k = 256 ∨ k = 512) ∧ (okN n = true → (k : Int) ≤ n) ∧ wx = w)
  case atStart => exact ⟨1, rfl, rfl, .inl rfl, fun h => (okN_le h).1, rfl⟩
  case round =>
    obtain ⟨k, hgk, rfl, hk, hn, hw⟩ := hrel
    have hw := hw.symm
    subst hw
    by_cases h5 : k = 512
    · subst h5
      have HR := hid (show vSizeI n = 0 by unfold vSizeI; rw [if_neg]; intro h; have := okN_le h; have := hn h; omega)
      clear hn hk
      go_wp2_with fail
      go_ret
      rw [HR.out]
      exact ⟨rfl, rfl⟩
    have h6 : (k : Int) ≤ 256 := by omega
    by_cases he : (k : Int) = n
    · subst he
      have hok : okN (k : Int) = true := okN_iff.2 (by omega)
      have HR := hid (show vSizeI (k : Int) = 8 + 26 * (k : Int) by unfold vSizeI; rw [if_pos hok])
      clear hn hk hok
      go_wp2_with fail
      go_ret
      rw [HR.out]
      exact ⟨rfl, rfl⟩
    · have hb : ((k : Int) == n) = false := by simpa using he
      have Hn := hid (show okN n = true → ((2 * k : Nat) : Int) ≤ n from fun h => by have h1 := hn h; have h2 := okN_iff.1 h; omega)
      have Hk := hid (show 2 * k = 1 ∨ 2 * k = 2 ∨ 2 * k = 4 ∨ 2 * k = 8 ∨ 2 * k = 16 ∨ 2 * k = 32 ∨ 2 * k = 64 ∨ 2 * k = 128 ∨ 2 * k = 256 ∨ 2 * k = 512 by omega)
      have Hg := hid (show 1001 - 2 * k < gk ∧ 1001 - 2 * k + 2 * k = 1001 by omega)
      clear hn hk he
      go_wp2_with fail
      go_roundg (1001 - 2 * k)
      case measure => exact Hg.out.1
      case rel => exact ⟨2 * k, Hg.out.2, by go_num, Hk.out, Hn.out, rfl⟩
end
end Go.Proofs.Ytgiegiobigdplaa
