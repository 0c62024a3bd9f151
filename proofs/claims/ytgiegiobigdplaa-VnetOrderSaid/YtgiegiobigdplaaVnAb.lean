/- The program's card and port side by side, over one memory. -/
import Derived.Test.YtgiegiobigdplaaVnAa
namespace Go.Proofs.Ytgiegiobigdplaa
open Go Go.RowKit
set_option linter.unusedVariables false

theorem CardAt.memG {w w' : World} {base gm L b n gC : Nat} {M M' : List UInt8} {ci co : VQ} {m : Nat} {I : CardIds} {G : Nat → Prop} (h : CardAt w base gm L b n gC M ci co m I) (hf : Frame G w w') (hd : ∀ k, I.foot gC k → ¬ G k) (hm : MemAt w' gm M') (hl : M'.length = L) : CardAt w' base gm L b n gC M' ci co m I :=
  ⟨hf.blk h.tab (hd _ (.inl rfl)), h.qi.frame hf (fun k hk => hd k (.inr (.inl hk))), h.qo.frame hf (fun k hk => hd k (.inr (.inr hk))), hm, hl, h.apart, h.ni, h.no, h.nm, h.lo⟩
theorem PortAt.memG {w w' : World} {base gm L b n gP : Nat} {M M' : List UInt8} {pi po : VD} {gdi gdo : Nat} {G : Nat → Prop} (h : PortAt w base gm L b n gP M pi po gdi gdo) (hf : Frame G w w') (hd : ∀ k, portFoot gP gdi gdo k → ¬ G k) (hm : MemAt w' gm M') (hl : M'.length = L) : PortAt w' base gm L b n gP M' pi po gdi gdo :=
  ⟨hf.blk h.tab (hd _ (.inl rfl)), h.di.frame hf (hd _ (.inr (.inl rfl))), h.do_.frame hf (hd _ (.inr (.inr rfl))), hm, hl, h.ne, h.lo⟩
/-- both, at one state -/
structure VPlay (w : World) (base gm L b n gC gP gdi gdo m : Nat) (I : CardIds) (s : VnSt) : Prop where
  card : CardAt w base gm L b n gC s.M s.ci s.co m I
  port : PortAt w base gm L b n gP s.M s.pi s.po gdi gdo
  far : ∀ k, I.foot gC k → ¬ portFoot gP gdi gdo k
def VPlay.foot (gm gC gP gdi gdo : Nat) (I : CardIds) : Nat → Prop := fun k => I.foot gC k ∨ portFoot gP gdi gdo k ∨ k = gm
section
variable {w w' : World} {base gm L b n gC gP gdi gdo m : Nat} {I : CardIds} {s : VnSt}
theorem VPlay.keep (h : VPlay w base gm L b n gC gP gdi gdo m I s) (hb : Below w.heap.size w w') : VPlay w' base gm L b n gC gP gdi gdo m I s := ⟨h.card.keep hb, h.port.keep hb, h.far⟩
theorem VPlay.frame {G : Nat → Prop} (h : VPlay w base gm L b n gC gP gdi gdo m I s) (hf : Frame G w w') (hd : ∀ k, VPlay.foot gm gC gP gdi gdo I k → ¬ G k) : VPlay w' base gm L b n gC gP gdi gdo m I s :=
  ⟨h.card.frame hf (fun k hk => hd k (hk.imp_right .inr)), h.port.frame hf (fun k hk => hd k (.inr hk)), h.far⟩
theorem VPlay.bd (h : VPlay w base gm L b n gC gP gdi gdo m I s) (k : Nat) (hk : VPlay.foot gm gC gP gdi gdo I k) : k < w.heap.size := by
  rcases hk with hk | hk | rfl
  · exact (h.card.bd k hk).2
  · exact (h.port.bd k hk).2
  · exact Blk.lt h.card.mem
/-- the port has gone on -/
theorem VPlay.port_ {M' : List UInt8} {pi' po' : VD} (h : VPlay w base gm L b n gC gP gdi gdo m I s) (hp : PortAt w' base gm L b n gP M' pi' po' gdi gdo) (hf : Frame (fun k => portFoot gP gdi gdo k ∨ k = gm) w w') : VPlay w' base gm L b n gC gP gdi gdo m I { s with M := M', pi := pi', po := po' } :=
  ⟨h.card.memG hf (fun k hk e => e.elim (h.far k hk) (fun e => h.card.nm (e ▸ hk))) hp.mem hp.len, hp, h.far⟩
/-- the card has gone on -/
theorem VPlay.card_ {M' : List UInt8} {ci' co' : VQ} {m' : Nat} {I' : CardIds} (h : VPlay w base gm L b n gC gP gdi gdo m I s) (hc : CardAt w' base gm L b n gC M' ci' co' m' I') (hf : Frame (fun k => I.foot gC k ∨ k = gm) w w') (hI : ∀ k, I'.foot gC k → I.foot gC k ∨ w.heap.size ≤ k) : VPlay w' base gm L b n gC gP gdi gdo m' I' { s with M := M', ci := ci', co := co' } :=
  ⟨hc, h.port.memG hf (fun k hk e => e.elim (fun e => h.far k e hk) (fun e => h.port.nm (e ▸ hk))) hc.mem hc.len, fun k hk e => (hI k hk).elim (fun e2 => h.far k e2 e) (fun e2 => by have := (h.port.bd k e).2; omega)⟩
end
/-- a card and a port that were just made -/
theorem vplay_start {w2 w3 : World} {base gm L b n gC gP gdi gdo m : Nat} {I : CardIds} {M : List UInt8} {ci co : VQ} {pi po : VD} (hc : CardAt w2 base gm L b n gC M ci co m I) (hp : PortAt w3 base gm L b n gP M pi po gdi gdo) (hb : Below w2.heap.size w2 w3) (hn : ∀ k, portFoot gP gdi gdo k → w2.heap.size ≤ k) : VPlay w3 base gm L b n gC gP gdi gdo m I ⟨M, ci, co, pi, po⟩ :=
  ⟨hc.keep hb, hp, fun k hk e => by have := (hc.bd k hk).2; have := hn k e; omega⟩
end Go.Proofs.Ytgiegiobigdplaa
