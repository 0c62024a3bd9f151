/- The memory of both queues: what is read and written there. -/
import Derived.Test.YtgiegiobigdplaaVnS
import Derived.Test.YtgiegiobigdplaaFrameV
import Derived.Test.YtgiegiobigdplaaNumC
import Derived.Test.YtgiegiobigdplaaNumH
import Derived.Test.YtgiegiobigdplaaNumS
import Derived.Deep.DrawnRows
namespace Go.Proofs.Ytgiegiobigdplaa
open Go Go.RowKit
attribute [local go_sem ↓] Go.wp_at_zero Go.wp_at_succ
set_option maxRecDepth 100000
set_option linter.unusedSimpArgs false

/-- the memory, a block by itself -/
def MemAt (w : World) (g : Nat) (M : List UInt8) : Prop := Blk w g 5 (M.map u8v)
theorem cutA_at (g off cap l : Nat) (h : l < cap) : cutA (some ⟨g, off, none⟩) cap l 1 = some ⟨g, off + l, none⟩ := by
  unfold cutA
  rw [if_neg (by omega), Nat.mul_one]
  simp only [Option.map_some, Addr.add]
  split
  · rename_i h0
    subst h0
    rfl
  · rfl
section
variable {w w' : World} {g : Nat} {M : List UInt8}
theorem MemAt.keep (h : MemAt w g M) (hb : Below w.heap.size w w') : MemAt w' g M := Blk.keep h hb
theorem MemAt.frame {F : Nat → Prop} (h : MemAt w g M) (hf : Frame F w w') (hn : ¬ F g) : MemAt w' g M := hf.blk h hn
/-- a piece of it, as bytes -/
theorem MemAt.bs (h : MemAt w g M) {off n cap : Nat} (hn : off + n ≤ M.length) (h1 : n ≤ cap) (h2 : cap ≤ maxLen) : Bs w (.slice (some ⟨g, off, none⟩) n cap) ((M.drop off).take n) :=
  Blk.bs h (by rw [← List.map_drop, ← List.map_take]) (by rw [List.length_take, List.length_drop]; omega) h1 h2
/-- a piece is copied into it -/
theorem patch_map (M b : List UInt8) (p : Nat) : (M.map u8v).take p ++ (b.map u8v ++ (M.map u8v).drop (p + b.length)) = (patch M p b).map u8v := by
  unfold patch
  rw [List.map_append, List.map_append, List.map_take, List.map_drop]
end
theorem frame_mem {w w' : World} {g : Nat} (h : w.grownBy w' (some g)) : Frame (fun k => k = g) w w' := frame_grown h (fun k hk => by injection hk with hk; exact hk.symm)
/-- a number of a piece of memory -/
theorem cut_mem (M : List UInt8) (b S p k : Nat) (hk : okSize (k : Int) = true) (hb : b + S ≤ M.length) (hp : p + k ≤ S) : cutOf ((M.drop b).take S) (p : Int) (k : Int) = ((M.drop (b + p)).take k, 0) := by
  have hl : ((M.drop b).take S).length = S := by rw [List.length_take, List.length_drop]; omega
  unfold cutOf
  rw [if_pos hk, if_neg (by rw [hl]; omega), Int.toNat_natCast, Int.toNat_natCast, List.drop_take, List.drop_drop, List.take_take, Nat.min_eq_left (by omega)]
theorem run_cut_lmax {P : Program} {T E : TypeId} {i : TypeInfo} (ht : P.underlying T = some (.slice E)) (hi : P.info? E = some i) (A : Option Addr) (n cap : Nat) (k1 k2 k3 : IntKind) (lo hi' : Int) (l k : Nat)
    (h1 : lo = l) (h2 : hi' = l + k) (h3 : l + k ≤ cap) (h4 : 0 < k) (w : World) :
    (Instr.sliceAt T (.slice A n cap) (some (.int k1 lo)) (some (.int k2 hi')) (some (.int k3 hi'))).run P w = .ok (.slice (A.map (·.add (l * i.size))) k k) w := by
  subst h1; subst h2
  have a1 : (0 : Int) ≤ (l : Int) + (k : Int) ∧ (l : Int) + (k : Int) ≤ (cap : Int) := by omega
  have a2 : ((l : Int) + (k : Int)).toNat = l + k := by omega
  have a3 : ¬ (l + k - l = 0) := by omega
  have a4 : l + k - l = k := by omega
  simp [Instr.sliceAt, Instr.slice, run_underlying ht, Instr.sliceBounds, Instr.sliceBound, asIntOf, sizeOf, typeInfo, hi, a1, a2, a3, a4]
  omega

/-! ### the program's -/
theorem get_at (g gm b S : Nat) (M : List UInt8) (p k : Nat) (w : World) (hm : MemAt w gm M) (hb : b + S ≤ M.length) (hp : p + k ≤ S) (hk : okSize (k : Int) = true) (hS : S ≤ 100000) (c0 : w.cell? ⟨g, 0, none⟩ = some (.slice (some ⟨gm, b, none⟩) S S)) :
    Calls Try.prog 58 #[.pointer (some ⟨g, 0, none⟩), .int .i64 (p : Int), .int .i64 (k : Int)] w fun e w' => e = .returned (.int .u64 (leAt M (b + p) k : Int)) ∧ w' = w := by
  have HB := hid (hm.bs (off := b) (n := S) (cap := S) hb (Nat.le_refl _) (by simp only [maxLen]; omega))
  have HC := hid (cut_mem M b S p k hk hb hp)
  have hpS : p ≤ 100000 := by omega
  have HL := hid (le_any (.slice (some ⟨gm, b, none⟩) S S) ((M.drop b).take S) (p : Int) (k : Int) w HB.out (by omega) (by omega))
  clear hm hb hp hk
  go_enter Try.func58, Try.ntmps58
  go_wp2_with (go_at_call 65; refine HL.out.mono ?_; rintro e w' ⟨rfl, rfl⟩; rw [HC.out])
  go_ret
  exact ⟨rfl, rfl⟩
def SetPost (gm : Nat) (M : List UInt8) (w : World) (e : Ending) (w' : World) : Prop := (∃ u, e = .returned u) ∧ MemAt w' gm M ∧ Frame (fun k => k = gm) w w'
theorem set_at (g gm b S : Nat) (M : List UInt8) (p k v : Nat) (w : World) (hm : MemAt w gm M) (hb : b + S ≤ M.length) (hp : p + k ≤ S) (hk : okSize (k : Int) = true) (hv : v < 256 ^ k) (c0 : w.cell? ⟨g, 0, none⟩ = some (.slice (some ⟨gm, b, none⟩) S S)) :
    Calls Try.prog 62 #[.pointer (some ⟨g, 0, none⟩), .int .i64 (p : Int), .int .i64 (k : Int), .int .u64 (v : Int)] w (SetPost gm (putAt M (b + p) k v) w) := by
  have hk8 : k ≤ 8 := by have := okSize_le hk; omega
  have hk1 : 1 ≤ k := by have := okSize_le hk; omega
  have hv64 : v < 18446744073709551616 := Nat.lt_of_lt_of_le hv (by
    have : 256 ^ k ≤ 256 ^ 8 := Nat.pow_le_pow_right (by decide) hk8
    exact this)
  have HU := hid (u64_lit (w := w) (e := 128) (mk := (0, 0)) #[.int .u64 (v : Int)] [v] 1 w.heap.size rfl rfl (by decide) rfl (by intro x hx; simp at hx; subst hx; exact hv64))
  have HP := hid (put_fits leBytes [] (k : Int) k [v] rfl hk (by intro x hx; simp at hx; subst hx; exact hv))
  have HM := hid (hm.keep (below_alloc w (.cells #[.int .u64 (v : Int)] 128)))
  have HB := hid (below_alloc w (.cells #[.int .u64 (v : Int)] 128))
  have c1 := cell_below (below_alloc w (.cells #[.int .u64 (v : Int)] 128)) c0
  have Hlen := hid (show b + S ≤ M.length from hb)
  have Hpk := hid (show p + k ≤ S from hp)
  have Hkl := hid (leBytes_len k v)
  obtain ⟨ii, hii, hz, hss, hbyy⟩ := info_parts u8info
  have hcut := run_cut_from (P := Try.prog) (T := 25) Try.underlying25 hii (some ⟨gm, b, none⟩) S S .i64 (p : Int) p (S - p) rfl (by omega) (Nat.le_refl _)
  rw [hss, cutA_at gm b S p (by omega)] at hcut
  clear hii hz hss hbyy hm hb hk hv c0
  go_enter Try.func62, Try.ntmps62
  go_wp2_with (first
    | (go_at_call 66; refine (putLe_any (.slice none 0 0) [] (k : Int) _ [v] _ (Bs.nil _) HU.out (by simp)).mono ?_; rintro e w2 ⟨v2, rfl, ho, hb2⟩; rw [HP.out] at ho ⊢; have Ho2 := hid (show Bs w2 v2 (leBytes k v) from by have := ho.bs; simpa using this); have M2 := hid (HM.out.keep hb2); have Hb2 := hid (HB.out.trans (hb2.mono HB.out.size)); have c2 := cell_below hb2 c1; clear ho hb2)
    | ((with_reducible show wpList _ _ _ (Oper.mk (some 24) _ _ _ _ _ :: _) _ _); refine wpList_copyBs rfl _ _ 25 rfl 5 u8ok gm (b + p) (S - p) (S - p) rfl _ (leBytes k v) rfl Ho2.out _ 5 M2.out (by have := Hlen.out; have := Hpk.out; rw [List.length_map]; omega) ?_; intro w3 hblk hg3 hsz3; have B3 := hid hblk; have Hg3 := hid hg3; clear hblk hg3 hsz3))
  go_end0
  have ht : (leBytes k v).take (S - p) = leBytes k v := List.take_of_length_le (by rw [Hkl.out]; have := Hpk.out; omega)
  have h3 := B3.out
  rw [ht] at h3
  refine ⟨⟨_, rfl⟩, ?_, (Below.frameF Hb2.out _).trans (frame_mem Hg3.out) (fun _ _ h => h)⟩
  show Blk _ _ _ _
  rw [← show _ = (putAt M (b + p) k v).map u8v from patch_map M (leBytes k v) (b + p)]
  exact h3
end Go.Proofs.Ytgiegiobigdplaa
