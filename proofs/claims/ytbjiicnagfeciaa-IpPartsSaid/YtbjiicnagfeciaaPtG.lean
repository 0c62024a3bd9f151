/- One that waits is turned; what an Add holds of its own. -/
import Derived.Test.YtbjiicnagfeciaaPtC
import Derived.Test.YtbjiicnagfeciaaPtF
namespace Go.Proofs.Ytbjiicnagfeciaa
open Go Go.RowKit
set_option maxRecDepth 100000

theorem PtAt.one {w : World} {base g : Nat} {L : List WIt} {m : Nat} {vr : Value} {gM : Nat} {f : Value → Option Nat} {F : Nat → Prop} (h : PtAt w base g L m vr gM f F) {x y : WIt} (hx : x ∈ L) (hy : y ∈ L) (e : y.w.k = x.w.k ∨ y.g = x.g) : y = x := by
  have hg : y.g = x.g := by
    rcases e with e | e
    · have h1 := h.hit x hx
      have h2 := h.hit y hy
      rw [e, h1] at h2
      injection h2 with h2
      exact h2.symm
    · exact e
  have ha := h.apart
  clear h e
  induction L with
  | nil => cases hx
  | cons z L ih =>
    rw [List.pairwise_cons] at ha
    rcases List.mem_cons.1 hx with rfl | hx2
    · rcases List.mem_cons.1 hy with rfl | hy2
      · rfl
      · exact absurd hg.symm (ha.1 y hy2).1
    · rcases List.mem_cons.1 hy with rfl | hy2
      · exact absurd hg (ha.1 x hx2).1
      · exact ih hx2 hy2 ha.2
/-- x' in the place of x -/
def swapAt (L : List WIt) (x x' : WIt) : List WIt := L.map fun y => if y.g = x.g then x' else y
theorem PtAt.swap_w {w : World} {base g : Nat} {L : List WIt} {m : Nat} {vr : Value} {gM : Nat} {f : Value → Option Nat} {F : Nat → Prop} (h : PtAt w base g L m vr gM f F) {x x' : WIt} (hx : x ∈ L) (hk : x'.w.k = x.w.k) : (swapAt L x x').map WIt.w = pSet (L.map WIt.w) x'.w := by
  unfold swapAt pSet
  rw [List.map_map, List.map_map]
  refine List.map_congr_left fun y hy => ?_
  simp only [Function.comp]
  by_cases e : y.g = x.g
  · rw [if_pos e, if_pos (by rw [h.one hx hy (.inr e), hk])]
  · rw [if_neg e, if_neg (fun q => e (by rw [h.one hx hy (.inl (q.trans hk))]))]
theorem swap_ptr {L : List WIt} {x x' : WIt} (hg : x'.g = x.g) : (swapAt L x x').map WIt.ptr = L.map WIt.ptr := by
  unfold swapAt
  rw [List.map_map]
  refine List.map_congr_left fun y _ => ?_
  simp only [Function.comp]
  by_cases e : y.g = x.g
  · rw [if_pos e]; unfold WIt.ptr; rw [hg, e]
  · rw [if_neg e]
theorem swap_mem {L : List WIt} {x x' y : WIt} (h : y ∈ swapAt L x x') : y = x' ∨ y ∈ L ∧ y.g ≠ x.g := by
  obtain ⟨z, hz, rfl⟩ := List.mem_map.1 h
  by_cases e : z.g = x.g
  · rw [if_pos e]; exact .inl rfl
  · rw [if_neg e]; exact .inr ⟨hz, e⟩
theorem PtAt.turn {w w' : World} {base g : Nat} {L : List WIt} {m m' : Nat} {vr : Value} {gM : Nat} {f : Value → Option Nat} {F F' : Nat → Prop} (h : PtAt w base g L m vr gM f F) {x x' : WIt} (hx : x ∈ L) (hg : x'.g = x.g) (hk : x'.w.k = x.w.k) (hF : ∀ k, F k → F' k)
    (tab : Blk w' g 84 [vr, .map (some gM)]) (row : RowAtS w' base 88 1 vr L.length (L.map WIt.ptr)) (map : MapIs Try.prog 87 w' gM m' f)
    (it : ∀ y ∈ L, y.g ≠ x.g → ItAt w' base y F') (itx : ItAt w' base x' F') (ap : ∀ y ∈ L, y.g ≠ x.g → ∀ k, x'.pv.ownBlock = some k → y.pv.ownBlock ≠ some k) (ok : x'.w.Ok) (few : x'.qs.length ≤ m') (hm : m ≤ m') (flt : ∀ k, F' k → base ≤ k ∧ k < w'.heap.size) :
    PtAt w' base g (swapAt L x x') m' vr gM f F' where
  tab := tab
  row := by
    have hl : (swapAt L x x').length = L.length := by simp [swapAt]
    rw [swap_ptr hg, hl]; exact row
  map := map
  it y hy := by
    rcases swap_mem hy with rfl | ⟨h1, h2⟩
    · exact itx
    · exact it y h1 h2
  apart := by
    have ha := h.apart
    unfold swapAt
    rw [List.pairwise_map]
    refine List.Pairwise.imp_of_mem ?_ ha
    intro a b ha' hb' hab
    by_cases e1 : a.g = x.g
    · rw [if_pos e1]
      have e2 : b.g ≠ x.g := fun q => hab.1 (e1.trans q.symm)
      rw [if_neg e2]
      exact ⟨by rw [hg]; exact fun q => e2 q.symm, fun k hk => ap b hb' e2 k hk⟩
    · rw [if_neg e1]
      by_cases e2 : b.g = x.g
      · rw [if_pos e2]
        exact ⟨by rw [hg]; exact e1, fun k hk q => ap a ha' e1 k q hk⟩
      · rw [if_neg e2]
        exact hab
  hit y hy := by
    rcases swap_mem hy with rfl | ⟨h1, h2⟩
    · rw [hk, hg]; exact h.hit x hx
    · exact h.hit y h1
  miss k hk' := by
    refine h.miss k fun y hy e => ?_
    by_cases e1 : y.g = x.g
    · refine hk' x' (List.mem_map.2 ⟨y, hy, by rw [if_pos e1]⟩) ?_
      rw [hk, ← h.one hx hy (.inr e1)]; exact e
    · exact hk' y (List.mem_map.2 ⟨y, hy, by rw [if_neg e1]⟩) e
  ok := by
    rw [h.swap_w hx hk]
    have ho := h.ok
    refine ⟨fun y hy => ?_, ?_, ?_⟩
    · obtain ⟨z, hz, rfl⟩ := List.mem_map.1 hy
      by_cases e : z.k = x'.w.k
      · rw [if_pos e]; exact ok
      · rw [if_neg e]; exact ho.it z hz
    · have : (pSet (L.map WIt.w) x'.w).map (·.k) = (L.map WIt.w).map (·.k) := by
        unfold pSet
        rw [List.map_map]
        refine List.map_congr_left fun y _ => ?_
        simp only [Function.comp]
        by_cases e : y.k = x'.w.k
        · rw [if_pos e, e]
        · rw [if_neg e]
      rw [this]; exact ho.keys
    · unfold pSet; rw [List.length_map]; exact ho.len
  few y hy := by
    rcases swap_mem hy with rfl | ⟨h1, h2⟩
    · exact few
    · exact Nat.le_trans (h.few y h1) hm
  fg := hF _ h.fg
  fM := hF _ h.fM
  fr k hk := hF _ (h.fr k hk)
  flt := flt

theorem pFind_key {l l1 : List Wt} {k : PKey} {w : Wt} (h : (l1, w) = pFind l k) : w.k = k := by
  unfold pFind at h
  cases e : l.find? (fun x => decide (x.k = k)) with
  | none => rw [e] at h; injection h with _ h; rw [h]
  | some y =>
    rw [e] at h
    injection h with _ h
    rw [h]
    have := List.find?_some e
    simpa using this
theorem PtAt.part {w : World} {base g : Nat} {L : List WIt} {m : Nat} {vr : Value} {gM : Nat} {f : Value → Option Nat} {F : Nat → Prop} (h : PtAt w base g L m vr gM f F) {x y : WIt} (hx : x ∈ L) (hy : y ∈ L) (hne : y.g ≠ x.g) : ∀ k, x.pv.ownBlock = some k → y.pv.ownBlock ≠ some k := by
  have ha := h.apart
  clear h
  induction L with
  | nil => cases hx
  | cons z L ih =>
    rw [List.pairwise_cons] at ha
    rcases List.mem_cons.1 hx with rfl | hx2
    · rcases List.mem_cons.1 hy with rfl | hy2
      · exact absurd rfl hne
      · exact (ha.1 y hy2).2
    · rcases List.mem_cons.1 hy with rfl | hy2
      · exact fun k hk q => (ha.1 x hx2).2 k q hk
      · exact ih hx2 hy2 ha.2
/-- another one beside x, where x's own blocks are written -/
theorem ItAt.aside {w w' : World} {base : Nat} {x y : WIt} {F : Nat → Prop} (hy : ItAt w base y F) (hx : ItAt w base x F) (hne : y.g ≠ x.g) (hap : ∀ k, x.pv.ownBlock = some k → y.pv.ownBlock ≠ some k) (hf : Frame (fun k => k = x.g ∨ x.pv.ownBlock = some k) w w') : ItAt w' base y F := by
  refine hy.frame hf (fun q => ?_) (fun k hk q => ?_) (fun q hq k hk r => ?_)
  · rcases q with q | q
    · exact hne q
    · exact hx.row.ne hy.blk (by decide) q
  · rcases q with q | q
    · subst q; exact hy.row.ne hx.blk (by decide) hk
    · exact hap k q hk
  · obtain ⟨cur, hb⟩ := own_blkS (hy.bod q hq) hk
    rcases r with r | r
    · subst r; exact Blk.ne hx.blk hb (by decide) rfl
    · exact hx.row.ne hb (by decide) r
theorem ItAt.not {w : World} {base : Nat} {x : WIt} {F : Nat → Prop} (hx : ItAt w base x F) {g : Nat} {t : TypeId} {xs : List Value} (hb : Blk w g t xs) (ht : t ≠ 91 ∧ t ≠ 25) : ¬ (g = x.g ∨ x.pv.ownBlock = some g) := by
  rintro (q | q)
  · subst q; exact Blk.ne hb hx.blk ht.1 rfl
  · exact hx.row.ne hb ht.2 q
/-- what an Add holds of its own: the packet, the answer, the key, the packet's bytes -/
structure Loc (w0 w : World) (B1 : Nat) (p : Pk) (v1 : Value) (kb : Nat) : Prop where
  pc : Blk w w0.heap.size 25 (pkCells p v1)
  rc : Blk w (w0.heap.size + 1) 25 (pkCells pkZero (.slice none 0 0))
  kc : Blk w kb 87 p.key.cells
  b : OwnBs w (w0.heap.size + 2) 5 v1 p.body
  vb : ∀ k, v1.ownBlock = some k → w0.heap.size + 2 ≤ k ∧ k < B1
  kb : w0.heap.size + 2 ≤ kb ∧ kb < B1
theorem Loc.frame {w0 w w' : World} {B1 : Nat} {p : Pk} {v1 : Value} {kb : Nat} {G : Nat → Prop} (h : Loc w0 w B1 p v1 kb) (hf : Frame G w w') (hG : ∀ k, G k → k < w0.heap.size ∨ B1 ≤ k) : Loc w0 w' B1 p v1 kb where
  pc := hf.blk h.pc (fun q => by rcases hG _ q with q | q <;> have := h.kb <;> omega)
  rc := hf.blk h.rc (fun q => by rcases hG _ q with q | q <;> have := h.kb <;> omega)
  kc := hf.blk h.kc (fun q => by rcases hG _ q with q | q <;> have := h.kb <;> omega)
  b := hf.own h.b (fun k hk q => by rcases hG _ q with q | q <;> have := h.vb k hk <;> omega)
  vb := h.vb
  kb := h.kb
theorem Loc.keep {w0 w w' : World} {B1 : Nat} {p : Pk} {v1 : Value} {kb : Nat} (h : Loc w0 w B1 p v1 kb) (hb : Below w.heap.size w w') : Loc w0 w' B1 p v1 kb :=
  h.frame (G := fun _ => False) (Below.frameF hb _) (fun _ q => q.elim)
end Go.Proofs.Ytbjiicnagfeciaa
