/- A card and a port in good order beside a row of rows that is wanted. -/
import Derived.Test.YtgiegiobigdplaaVnAf
namespace Go.Proofs.Ytgiegiobigdplaa
open Go Go.RowKit
set_option linter.unusedVariables false

/-- both sides in good order, and a row of rows that none of them writes -/
structure WIt (w0 w : World) (gm A n gC gP d : Nat) (F : Nat → Prop) (v : Value) (L Wi Wo : List (List UInt8)) : Prop where
  pl : Pl w w0.heap.size gm A n gC gP d F Wi Wo
  rows : RowsN w w0.heap.size F v L
  bl : Below w0.heap.size w0 w
/-- and a frame in a block of its own -/
structure WF (w0 w : World) (gm A n gC gP d : Nat) (F : Nat → Prop) (g : Nat) (f : List UInt8) (v : Value) (L Wi Wo : List (List UInt8)) : Prop where
  pf : PF w0 w gm A n gC gP d F g f Wi Wo
  rows : RowsN w w0.heap.size (fun k => F k ∨ k = g) v L
  gb : w0.heap.size ≤ g
section
variable {w0 w w' : World} {gm A n gC gP d d' g : Nat} {F F' : Nat → Prop} {f : List UInt8} {v : Value} {L Wi Wo Wi' Wo' : List (List UInt8)}
theorem WF.keep (h : WF w0 w gm A n gC gP d F g f v L Wi Wo) (hb : Below w.heap.size w w') : WF w0 w' gm A n gC gP d F g f v L Wi Wo :=
  ⟨h.pf.keep hb, h.rows.step (Go.Proofs.Ytgiegiobigdplaa.Below.frameF hb (fun _ => False)) (fun k _ _ h3 => ⟨id, h3⟩), h.gb⟩
theorem WIt.keep (h : WIt w0 w gm A n gC gP d F v L Wi Wo) (hb : Below w.heap.size w w') : WIt w0 w' gm A n gC gP d F v L Wi Wo :=
  ⟨h.pl.keep hb, h.rows.step (Go.Proofs.Ytgiegiobigdplaa.Below.frameF hb (fun _ => False)) (fun k _ _ h3 => ⟨id, h3⟩), h.bl.trans (hb.mono h.bl.size)⟩
theorem WIt.none (h : Pl w w0.heap.size gm A n gC gP d F Wi Wo) (hb : Below w0.heap.size w0 w) : WIt w0 w gm A n gC gP d F (.slice none 0 0) [] Wi Wo := ⟨h, RowsN.nil _ _ _, hb⟩
/-- a frame is made -/
theorem wf_frame {e : Ending} (h : WIt w0 w gm A n gC gP d F v L Wi Wo) (hp : FramePost w e w') : ∃ g f, 14 ≤ f.length ∧ f.length ≤ 1514 ∧ e = .returned (.slice (some ⟨g, 0, none⟩) f.length f.length) ∧ WF w0 w' gm A n gC gP d F g f v L Wi Wo := by
  obtain ⟨g, f, h14, h1514, rfl, hg, hblk, hb⟩ := hp
  refine ⟨g, f, h14, h1514, rfl, ⟨h.pl.keep hb, hblk, fun e => by have := h.pl.bd _ e; omega, h.bl.trans (hb.mono h.bl.size), by omega⟩, h.rows.step (Go.Proofs.Ytgiegiobigdplaa.Below.frameF hb (fun _ => False)) (fun k _ h2 h3 => ⟨id, fun e => e.elim h3 (fun e => by omega)⟩), Nat.le_trans h.bl.size hg⟩
theorem wf_step (h : WF w0 w gm A n gC gP d F g f v L Wi Wo) (hp : PFPost w0 gm A n gC gP d' F g f Wi' Wo' w w') : ∃ F', WF w0 w' gm A n gC gP d' F' g f v L Wi' Wo' := by
  obtain ⟨F', hpf, hf, hF⟩ := hp
  exact ⟨F', hpf, h.rows.step hf (fun k _ h2 h3 => ⟨fun e => h3 (.inl e), fun e => e.elim (fun e => (hF k e).elim (fun e => h3 (.inl e)) (fun e => by omega)) (fun e => h3 (.inr e))⟩), h.gb⟩
/-- the frame is let go -/
theorem WF.off (h : WF w0 w gm A n gC gP d F g f v L Wi Wo) : WIt w0 w gm A n gC gP d F v L Wi Wo :=
  ⟨h.pf.pl, h.rows.step (Frame.refl (fun _ => False) w) (fun k _ _ h3 => ⟨id, fun e => h3 (.inl e)⟩), h.pf.bl⟩
/-- the frame's block is written -/
theorem WF.set (h : WF w0 w gm A n gC gP d F g f v L Wi Wo) (i : Nat) (z : Int) : ∃ f', f'.length = f.length ∧ WF w0 (w.setCell ⟨g, i, none⟩ (.int .u8 (z % 256))) gm A n gC gP d F g f' v L Wi Wo := by
  obtain ⟨c, hc, hb⟩ := h.pf.blk.set8 i z
  have hf : Frame (fun k => k = g) w (w.setCell ⟨g, i, none⟩ (.int .u8 (z % 256))) :=
    ⟨rfl, rfl, rfl, ((Below.refl 0 w).setCell (p := ⟨g, i, none⟩) (Nat.zero_le _) (.int .u8 (z % 256))).size, fun k _ hn => Below.heap_setCell w _ _ k hn⟩
  exact ⟨c, hc, ⟨h.pf.pl.frame hf (fun k hk e => h.pf.nf (e ▸ hk)), hb, h.pf.nf, h.pf.bl.setCell (p := ⟨g, i, none⟩) h.gb _, by rw [hc]; exact h.pf.len⟩, h.rows.step hf (fun k _ _ h3 => ⟨fun e => h3 (.inr e), h3⟩), h.gb⟩
end
/-- a copy is put behind the rows that are wanted -/
theorem wf_push {w0 w w8 w9 : World} {gm A n gC gP d g : Nat} {F : Nat → Prop} {f r : List UInt8} {v v' x : Value} {L Wi Wo : List (List UInt8)} {vs : List Value} (h : WF w0 w gm A n gC gP d F g f v L Wi Wo)
    (ho : w.ownsRow w0.heap.size 25 1 v L.length vs) (hn : ∀ z, v.ownBlock = some z → ¬ (F z ∨ z = g)) (hi : RowsIn w w0.heap.size (fun k => F k ∨ k = g) v vs L) (h24 : Below w.heap.size w w8) (hx : OwnBs w8 w.heap.size 5 x r)
    (h5 : w9.ownsRow w0.heap.size 25 1 v' (L.length + 1) (vs ++ [x])) (hg : w8.grownBy w9 v.ownBlock) (hvv : v'.ownBlock = v.ownBlock ∨ v'.ownBlock = some w8.heap.size) : WF w0 w9 gm A n gC gP d F g f v' (L ++ [r]) Wi Wo := by
  have hN : ∀ k, (F k ∨ k = g) → k < w.heap.size := fun k e => e.elim (fun e => h.pf.pl.bd k e) (fun e => e ▸ h.pf.blk.lt)
  have hr := RowsN.push (N := fun k => F k ∨ k = g) ho hn hi hN h.pf.bl.size h24 hx h5 hg hvv
  have h8 := h.keep h24
  have hf : Frame (fun k => v.ownBlock = some k) w8 w9 := frame_grown hg (fun z hz => hz)
  exact ⟨⟨h8.pf.pl.frame hf (fun k hk e => hn k e (.inl hk)), hf.blk h8.pf.blk (fun e => hn g e (.inr rfl)), h8.pf.nf, h8.pf.bl.trans (hf.below (fun k e => (World.ownsRow.lt ho k e).1) h8.pf.bl.size), h8.pf.len⟩, hr, h8.gb⟩
/-- a row that lies in a block of its own is put behind the others -/
theorem RowsN.push2 {w w5 : World} {base H : Nat} {N N2 : Nat → Prop} {v v' x : Value} {vs : List Value} {out : List (List UInt8)} {r : List UInt8} (ho : w.ownsRow base 25 1 v out.length vs) (hn : ∀ g, v.ownBlock = some g → ¬ N g) (hi : RowsIn w base N v vs out)
    (hN : ∀ k, N k → k < w.heap.size) (hN2 : ∀ k, N2 k → N k) (hx : OwnBs w base 5 x r) (hxN : ∀ g, x.ownBlock = some g → N g ∧ ¬ N2 g)
    (h5 : w5.ownsRow base 25 1 v' (out.length + 1) (vs ++ [x])) (hg : w.grownBy w5 v.ownBlock) (hH : w.heap.size ≤ H) (hvv : v'.ownBlock = v.ownBlock ∨ v'.ownBlock = some H) : RowsN w5 base N2 v' (out ++ [r]) := by
  have hlen : vs.length = out.length := by have := ho.1; omega
  refine ⟨vs ++ [x], by rw [List.length_append]; exact h5, fun g hg' e => ?_, fun i y s hy hs => ?_⟩
  · rcases hvv with e2 | e2
    · exact hn g (by rw [← e2]; exact hg') (hN2 g e)
    · rw [e2] at hg'
      injection hg' with hg'
      have := hN g (hN2 g e)
      omega
  · by_cases hlt : i < vs.length
    · rw [List.getElem?_append_left hlt] at hy
      rw [List.getElem?_append_left (by omega)] at hs
      obtain ⟨h1, h2⟩ := hi i y s hy hs
      refine ⟨own_same h1 (fun g hg' => ?_), fun g hg' => ⟨fun e => (h2 g hg').1 (hN2 g e), fun e => ?_⟩⟩
      · have hl := World.ownsRow.lt h1 g hg'
        exact hg.block g (by omega) (fun e => (h2 g hg').2 e.symm)
      · have hl := World.ownsRow.lt h1 g hg'
        rcases hvv with e2 | e2
        · exact (h2 g hg').2 (by rw [← e2]; exact e)
        · rw [e2] at e
          injection e with e
          omega
    · have hi2 : i = vs.length := by
        have := (List.getElem?_eq_some_iff.1 hy).1
        rw [List.length_append] at this
        simp at this
        omega
      subst hi2
      rw [List.getElem?_append_right (Nat.le_refl _), Nat.sub_self] at hy
      rw [hlen, List.getElem?_append_right (Nat.le_refl _), Nat.sub_self] at hs
      simp at hy hs
      subst hy
      subst hs
      have hnv : ∀ g, x.ownBlock = some g → v.ownBlock ≠ some g := fun g hg' e => hn g e (hxN g hg').1
      refine ⟨own_same hx (fun g hg' => ?_), fun g hg' => ⟨(hxN g hg').2, fun e => ?_⟩⟩
      · have hl := World.ownsRow.lt hx g hg'
        exact hg.block g hl.2 (fun e => hnv g hg' e.symm)
      · have hl := World.ownsRow.lt hx g hg'
        rcases hvv with e2 | e2
        · exact hnv g hg' (by rw [← e2]; exact e)
        · rw [e2] at e
          injection e with e
          omega
/-- a block read as a row of bytes of one's own -/
theorem blk_own {w : World} {g base : Nat} {f : List UInt8} (h : Blk w g 5 (f.map u8v)) (hb : base ≤ g) (hl : f.length ≤ 100000) : OwnBs w base 5 (.slice (some ⟨g, 0, none⟩) f.length f.length) f := by
  refine ⟨by rw [List.length_map]; omega, .inr ⟨g, f.length, (f.map u8v).toArray, rfl, hb, h, Nat.le_refl _, by unfold maxLen; omega, by simp, by rw [Nat.mul_one]; exact List.take_of_length_le (by rw [List.length_map]; exact Nat.le_refl _)⟩⟩
/-- the memory of a play -/
theorem Pl.mem {w : World} {base gm A n gC gP d : Nat} {F : Nat → Prop} {Wi Wo : List (List UInt8)} (h : Pl w base gm A n gC gP d F Wi Wo) : F gm ∧ ∃ M : List UInt8, M.length = A ∧ Blk w gm 5 (M.map u8v) := by
  obtain ⟨gdi, gdo, m, I, s, hp, hf, hm, rfl⟩ := h.ex
  exact ⟨.inr (.inr rfl), s.M, hp.card.len, hp.card.mem⟩
/-- the frame itself is put behind the rows that are wanted -/
theorem wf_put {w0 w w8 w9 : World} {gm A n gC gP d g : Nat} {F : Nat → Prop} {f : List UInt8} {v v' : Value} {L Wi Wo : List (List UInt8)} {vs : List Value} (h : WF w0 w gm A n gC gP d F g f v L Wi Wo)
    (ho : w.ownsRow w0.heap.size 25 1 v L.length vs) (hn : ∀ z, v.ownBlock = some z → ¬ (F z ∨ z = g)) (hi : RowsIn w w0.heap.size (fun k => F k ∨ k = g) v vs L) (h24 : Below w.heap.size w w8)
    (h5 : w9.ownsRow w0.heap.size 25 1 v' (L.length + 1) (vs ++ [.slice (some ⟨g, 0, none⟩) f.length f.length])) (hg : w8.grownBy w9 v.ownBlock) (hvv : v'.ownBlock = v.ownBlock ∨ v'.ownBlock = some w8.heap.size) : WIt w0 w9 gm A n gC gP d F v' (L ++ [f]) Wi Wo := by
  have h8 := h.keep h24
  have hN : ∀ k, (F k ∨ k = g) → k < w8.heap.size := fun k e => e.elim (fun e => h8.pf.pl.bd k e) (fun e => e ▸ h8.pf.blk.lt)
  have hi8 : RowsIn w8 w0.heap.size (fun k => F k ∨ k = g) v vs L := fun i x r hx hr => ⟨own_below (hi i x r hx hr).1 h24, (hi i x r hx hr).2⟩
  have hr := RowsN.push2 (N := fun k => F k ∨ k = g) (N2 := F) (r := f) (own_below ho h24) hn hi8 hN (fun _ e => .inl e) (blk_own h8.pf.blk h.gb h.pf.len) (fun z hz => by injection hz with hz; subst hz; exact ⟨.inr rfl, h.pf.nf⟩) h5 hg (Nat.le_refl _) hvv
  have hf : Frame (fun k => v.ownBlock = some k) w8 w9 := frame_grown hg (fun z hz => hz)
  exact ⟨h8.pf.pl.frame hf (fun k hk e => hn k e (.inl hk)), hr, h8.pf.bl.trans (hf.below (fun k e => (World.ownsRow.lt ho k e).1) h8.pf.bl.size)⟩
end Go.Proofs.Ytgiegiobigdplaa
