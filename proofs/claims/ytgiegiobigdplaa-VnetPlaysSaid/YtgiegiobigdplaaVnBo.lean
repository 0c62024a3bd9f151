/- The program's card and port beside the document's. -/
import Derived.Test.YtgiegiobigdplaaVnBn
import Derived.Test.YtgiegiobigdplaaVnBh
import Derived.Test.YtgiegiobigdplaaVnAf
namespace Go.Proofs.Ytgiegiobigdplaa
open Go Go.RowKit
set_option linter.unusedVariables false

/-- both sides: the program's at s1, the document's at s2 -/
structure PlX (w : World) (B gm gx L b n gC gP gD gQ d : Nat) (s1 s2 : VnSt) (gdi gdo m : Nat) (I : CardIds) (m2 gi go : Nat) (vi vo : Value) (hi ho : List Nat) (col : Nat → Nat) (rdi rdo : Nat) : Prop where
  vp : VPlay w B gm L b n gC gP gdi gdo m I s1
  rc : RCard w B gx L b n gD s2.M s2.ci s2.co m2 gi go vi vo hi ho col
  ti : Tie hi s2.ci.busy
  to_ : Tie ho s2.co.busy
  rp : RPortAt w B gx L b n gQ s2.M s2.pi s2.po rdi rdo
  m1d : m ≤ d
  m2d : m2 ≤ d
  b1 : ∀ j, j < n → s1.ci.busy[j]? = some true
  b2 : ∀ j, j < n → s2.ci.busy[j]? = some true
  a1 : ∀ k, VPlay.foot gm gC gP gdi gdo I k → col k = 0 ∧ ¬ portFoot gQ rdi rdo k
  a2 : ∀ k, col k ≠ 0 → ¬ portFoot gQ rdi rdo k
  lo : B ≤ gm
def plFoot (gm gC gP gdi gdo : Nat) (I : CardIds) (col : Nat → Nat) (gQ rdi rdo : Nat) : Nat → Prop := fun k => VPlay.foot gm gC gP gdi gdo I k ∨ col k ≠ 0 ∨ portFoot gQ rdi rdo k
def PlV (w : World) (B gm gx L b n gC gP gD gQ d : Nat) (F : Nat → Prop) (s1 s2 : VnSt) : Prop :=
  vFits L (b : Int) (n : Int) = true ∧ L ≤ 60000 ∧ ∃ gdi gdo m I m2 gi go vi vo hi ho col rdi rdo, PlX w B gm gx L b n gC gP gD gQ d s1 s2 gdi gdo m I m2 gi go vi vo hi ho col rdi rdo ∧ F = plFoot gm gC gP gdi gdo I col gQ rdi rdo
def PlVPost (B gm gx L b n gC gP gD gQ d : Nat) (F : Nat → Prop) (s1 s2 : VnSt) (w w' : World) : Prop := ∃ F', PlV w' B gm gx L b n gC gP gD gQ d F' s1 s2 ∧ Frame F w w' ∧ ∀ k, F' k → F k ∨ w.heap.size ≤ k
section
variable {w w' : World} {B gm gx L b n gC gP gD gQ d d' : Nat} {F : Nat → Prop} {s1 s2 s : VnSt} {gdi gdo m m' m2 gi go rdi rdo : Nat} {I I' : CardIds} {vi vo vi' vo' : Value} {hi ho hi' ho' : List Nat} {col col' : Nat → Nat}
theorem PlX.bd (h : PlX w B gm gx L b n gC gP gD gQ d s1 s2 gdi gdo m I m2 gi go vi vo hi ho col rdi rdo) (k : Nat) (hk : plFoot gm gC gP gdi gdo I col gQ rdi rdo k) : B ≤ k ∧ k < w.heap.size := by
  rcases hk with hk | hk | hk
  · refine ⟨?_, h.vp.bd k hk⟩
    rcases hk with e | e | e
    · exact (h.vp.card.bd k e).1
    · exact (h.vp.port.bd k e).1
    · rw [e]; exact h.lo
  · exact h.rc.flt k hk
  · exact h.rp.bd k hk
theorem PlV.bd (h : PlV w B gm gx L b n gC gP gD gQ d F s1 s2) (k : Nat) (hk : F k) : B ≤ k ∧ k < w.heap.size := by
  obtain ⟨_, _, gdi, gdo, m, I, m2, gi, go, vi, vo, hi, ho, col, rdi, rdo, hx, rfl⟩ := h
  exact hx.bd k hk
theorem PlX.frame {G : Nat → Prop} (h : PlX w B gm gx L b n gC gP gD gQ d s1 s2 gdi gdo m I m2 gi go vi vo hi ho col rdi rdo) (hf : Frame G w w') (hd : ∀ k, plFoot gm gC gP gdi gdo I col gQ rdi rdo k → ¬ G k) : PlX w' B gm gx L b n gC gP gD gQ d s1 s2 gdi gdo m I m2 gi go vi vo hi ho col rdi rdo :=
  ⟨h.vp.frame hf (fun k hk => hd k (.inl hk)), h.rc.frame hf (fun k hk => hd k (.inr (.inl hk))), h.ti, h.to_, h.rp.frame hf (fun k hk => hk.elim (fun e => hd k (.inr (.inr e))) (fun e => hd k (.inr (.inl (by rw [e, h.rc.cm]; decide))))), h.m1d, h.m2d, h.b1, h.b2, h.a1, h.a2, h.lo⟩
theorem PlV.frame {G : Nat → Prop} (h : PlV w B gm gx L b n gC gP gD gQ d F s1 s2) (hf : Frame G w w') (hd : ∀ k, F k → ¬ G k) : PlV w' B gm gx L b n gC gP gD gQ d F s1 s2 := by
  obtain ⟨hfit, hL, gdi, gdo, m, I, m2, gi, go, vi, vo, hi, ho, col, rdi, rdo, hx, rfl⟩ := h
  exact ⟨hfit, hL, _, _, _, _, _, _, _, _, _, _, _, _, _, _, hx.frame hf hd, rfl⟩
theorem PlV.keep (h : PlV w B gm gx L b n gC gP gD gQ d F s1 s2) (hb : Below w.heap.size w w') : PlV w' B gm gx L b n gC gP gD gQ d F s1 s2 := h.frame (G := fun _ => False) (Below.frameF hb _) (fun _ _ => id)
theorem PlV.mems (h : PlV w B gm gx L b n gC gP gD gQ d F s1 s2) : MemAt w gm s1.M ∧ MemAt w gx s2.M ∧ s1.M.length = L ∧ s2.M.length = L ∧ F gm ∧ F gx ∧ L ≤ 60000 := by
  obtain ⟨hfit, hL, gdi, gdo, m, I, m2, gi, go, vi, vo, hi, ho, col, rdi, rdo, hx, rfl⟩ := h
  exact ⟨hx.vp.card.mem, hx.rc.mem, hx.vp.card.len, hx.rc.len, .inl (.inr (.inr rfl)), .inr (.inl (by rw [hx.rc.cm]; decide)), hL⟩
/-- the program's side has gone on -/
theorem PlX.prog {gdi' gdo' : Nat} (h : PlX w B gm gx L b n gC gP gD gQ d s1 s2 gdi gdo m I m2 gi go vi vo hi ho col rdi rdo) (hf : Frame (VPlay.foot gm gC gP gdi gdo I) w w') (hv : VPlay w' B gm L b n gC gP gdi' gdo' m' I' s) (hF : ∀ k, VPlay.foot gm gC gP gdi' gdo' I' k → VPlay.foot gm gC gP gdi gdo I k ∨ w.heap.size ≤ k) (hm : m' ≤ d') (hdd : d ≤ d') (hb : ∀ j, j < n → s.ci.busy[j]? = some true) :
    PlX w' B gm gx L b n gC gP gD gQ d' s s2 gdi' gdo' m' I' m2 gi go vi vo hi ho col rdi rdo := by
  refine ⟨hv, h.rc.frame hf (fun k hk e => hk (h.a1 k e).1), h.ti, h.to_, h.rp.frame hf (fun k hk e => hk.elim (fun e2 => (h.a1 k e).2 e2) (fun e2 => by have := (h.a1 k e).1; rw [e2, h.rc.cm] at this; cases this)), hm, Nat.le_trans h.m2d hdd, hb, h.b2, fun k hk => ?_, h.a2, h.lo⟩
  rcases hF k hk with e | e
  · exact h.a1 k e
  · exact ⟨Classical.byContradiction fun e2 => by have := (h.rc.flt k e2).2; omega, fun e2 => by have := (h.rp.bd k e2).2; omega⟩
/-- the document's card has gone on -/
theorem PlX.card (h : PlX w B gm gx L b n gC gP gD gQ d s1 s2 gdi gdo m I m2 gi go vi vo hi ho col rdi rdo) (hf : Frame (fun k => col k ≠ 0) w w') (hr : RCard w' B gx L b n gD s.M s.ci s.co m' gi go vi' vo' hi' ho' col') (ho2 : Onto w col col') (hp : s.pi = s2.pi ∧ s.po = s2.po) (ti : Tie hi' s.ci.busy) (to_ : Tie ho' s.co.busy) (hm : m' ≤ d') (hdd : d ≤ d') (hb : ∀ j, j < n → s.ci.busy[j]? = some true) :
    PlX w' B gm gx L b n gC gP gD gQ d' s1 s gdi gdo m I m' gi go vi' vo' hi' ho' col' rdi rdo := by
  refine ⟨h.vp.frame hf (fun k hk e => e (h.a1 k hk).1), hr, ti, to_, by rw [hp.1, hp.2]; exact h.rp.memG hf (fun k hk e => h.a2 k e hk) hr.mem hr.len, Nat.le_trans h.m1d hdd, hm, h.b1, hb, fun k hk => ⟨?_, (h.a1 k hk).2⟩, fun k hk e => ?_, h.lo⟩
  · rw [ho2 k (h.vp.bd k hk)]
    exact (h.a1 k hk).1
  · have hlt := (h.rp.bd k e).2
    rw [ho2 k hlt] at hk
    exact h.a2 k hk e
/-- the document's port has gone on -/
theorem PlX.port {M' : List UInt8} {pi' po' : VD} (h : PlX w B gm gx L b n gC gP gD gQ d s1 s2 gdi gdo m I m2 gi go vi vo hi ho col rdi rdo) (hf : Frame (fun k => portFoot gQ rdi rdo k ∨ k = gx) w w') (hr : RPortAt w' B gx L b n gQ M' pi' po' rdi rdo) :
    PlX w' B gm gx L b n gC gP gD gQ d s1 { s2 with M := M', pi := pi', po := po' } gdi gdo m I m2 gi go vi vo hi ho col rdi rdo := by
  refine ⟨h.vp.frame hf (fun k hk e => e.elim (h.a1 k hk).2 (fun e => by have := (h.a1 k hk).1; rw [e, h.rc.cm] at this; cases this)), h.rc.memG hf (fun k h0 h6 e => e.elim (h.a2 k h0) (fun e => h6 (by rw [e]; exact h.rc.cm))) hr.mem hr.len, h.ti, h.to_, hr, h.m1d, h.m2d, h.b1, h.b2, h.a1, h.a2, h.lo⟩
theorem vfoot_next (hI : ∀ k, I'.foot gC k → I.foot gC k ∨ w.heap.size ≤ k) (k : Nat) (hk : VPlay.foot gm gC gP gdi gdo I' k) : VPlay.foot gm gC gP gdi gdo I k ∨ w.heap.size ≤ k := by
  rcases hk with e | e | e
  · exact (hI k e).imp_left .inl
  · exact .inl (.inr (.inl e))
  · exact .inl (.inr (.inr e))
/-! ### the calls -/
def vDel (b n : Nat) (s : VnSt) (f : List UInt8) : Int × VnSt := if f.length < 14 ∨ f.length > 1514 then (14, s) else ((vDeliver b n f 65536 s.M s.pi).1, { s with M := (vDeliver b n f 65536 s.M s.pi).2.1, pi := (vDeliver b n f 65536 s.M s.pi).2.2 })
def vRcv (b n : Nat) (s : VnSt) : List (List UInt8) × VnSt := ((vReceive b n 65536 s.M s.ci []).1, { s with M := (vReceive b n 65536 s.M s.ci []).2.1, ci := (vReceive b n 65536 s.M s.ci []).2.2 })
def vSnt (b n : Nat) (s : VnSt) : List (List UInt8) × VnSt := ((vSent (b + vSize n) n 65536 s.M s.po []).1, { s with M := (vSent (b + vSize n) n 65536 s.M s.po []).2.1, po := (vSent (b + vSize n) n 65536 s.M s.po []).2.2 })
theorem vSend_keeps (b n : Nat) (s : VnSt) (f : List UInt8) : (vSend b n s f).2.ci = s.ci ∧ (vSend b n s f).2.pi = s.pi ∧ (vSend b n s f).2.po = s.po := by
  unfold vSend
  simp only
  split
  · exact ⟨rfl, rfl, rfl⟩
  · split <;> exact ⟨rfl, rfl, rfl⟩
theorem p_send {v : Value} {f : List UInt8} (h : PlV w B gm gx L b n gC gP gD gQ d F s1 s2) (hd : d < 800000000) (hf : ∀ w', Frame F w w' → Bs w' v f) (hlen : f.length ≤ 100000) :
    Calls Try.prog 14 #[.pointer (some ⟨gC, 0, none⟩), v] w fun e w' => e = .returned (.int .i64 (vSend b n s1 f).1) ∧ PlVPost B gm gx L b n gC gP gD gQ (d + 1) F (vSend b n s1 f).2 s2 w w' := by
  obtain ⟨hfit, hL, gdi, gdo, m, I, m2, gi, go, vi, vo, hi, ho, col, rdi, rdo, hx, rfl⟩ := h
  obtain ⟨e1, e2, e3⟩ := vSend_keeps b n s1 f
  have hm := hx.m1d
  refine (vsend_at B gm L b n gC s1 m I v f w hx.vp.card hfit (by omega) (by omega) (fun w' hf' => hf w' (hf'.weaken (fun k _ e => .inl (e.imp_right .inr)))) hlen).mono ?_
  rintro e w' ⟨m', I', rfl, hc', hm', hfr, hI⟩
  have hpl := hx.vp.card_ hc' hfr hI
  have hst : ({ s1 with M := (vSend b n s1 f).2.M, ci := (vSend b n s1 f).2.ci, co := (vSend b n s1 f).2.co } : VnSt) = (vSend b n s1 f).2 := by rw [← e2, ← e3]
  rw [hst] at hpl
  refine ⟨rfl, _, ⟨hfit, hL, _, _, _, _, _, _, _, _, _, _, _, _, _, _, hx.prog (hfr.weaken (fun k _ e => e.imp_right .inr)) hpl (vfoot_next hI) (d' := d + 1) (by omega) (by omega) (by rw [e1]; exact hx.b1), rfl⟩, hfr.weaken (fun k _ e => .inl (e.imp_right .inr)), fun k hk => ?_⟩
  rcases hk with e | e
  · exact (vfoot_next hI k e).imp_left .inl
  · exact .inl (.inr e)
theorem d_send {v : Value} {f : List UInt8} (h : PlV w B gm gx L b n gC gP gD gQ d F s1 s2) (hd : d < 800000000) (hf : ∀ w', Frame F w w' → Bs w' v f) (hlen : f.length ≤ 100000) :
    Calls Try.prog 15 #[.pointer (some ⟨gD, 0, none⟩), v] w fun e w' => e = .returned (.int .i64 (vSend b n s2 f).1) ∧ PlVPost B gm gx L b n gC gP gD gQ (d + 1) F s1 (vSend b n s2 f).2 w w' := by
  obtain ⟨hfit, hL, gdi, gdo, m, I, m2, gi, go, vi, vo, hi, ho, col, rdi, rdo, hx, rfl⟩ := h
  obtain ⟨e1, e2, e3⟩ := vSend_keeps b n s2 f
  have hm := hx.m2d
  refine (rsend_at B gx L b n gD s2 m2 gi go vi vo hi ho col v f w hx.rc hx.to_ hfit (by omega) (by omega) (fun w' hf' => hf w' (hf'.weaken (fun k _ e => .inr (.inl e)))) hlen).mono ?_
  rintro e w' ⟨m', vo', ho', col', rfl, hr', ht', hm', hm'', hfr, hon⟩
  refine ⟨rfl, _, ⟨hfit, hL, _, _, _, _, _, _, _, _, _, _, _, _, _, _, hx.card (s := (vSend b n s2 f).2) hfr (by rw [e1]; exact hr') hon ⟨e2, e3⟩ (by rw [e1]; exact hx.ti) ht' (d' := d + 1) (by omega) (by omega) (by rw [e1]; exact hx.b2), rfl⟩, hfr.weaken (fun k _ e => .inr (.inl e)), fun k hk => ?_⟩
  rcases hk with e | e | e
  · exact .inl (.inl e)
  · exact (onto_ne hon k e).imp_left (fun e => .inr (.inl e))
  · exact .inl (.inr (.inr e))
theorem p_deliver {v : Value} {f : List UInt8} (h : PlV w B gm gx L b n gC gP gD gQ d F s1 s2) (hf : ∀ w', Frame F w w' → Bs w' v f) (hlen : f.length ≤ 100000) :
    Calls Try.prog 19 #[.pointer (some ⟨gP, 0, none⟩), v] w fun e w' => e = .returned (.int .i64 (vDel b n s1 f).1) ∧ PlVPost B gm gx L b n gC gP gD gQ d F (vDel b n s1 f).2 s2 w w' := by
  obtain ⟨hfit, hL, gdi, gdo, m, I, m2, gi, go, vi, vo, hi, ho, col, rdi, rdo, hx, rfl⟩ := h
  refine (vdeliver_at B gm L b n gP s1.M s1.pi s1.po gdi gdo v f w hx.vp.port hfit (by omega) (fun w' hf' => hf w' (hf'.weaken (fun k _ e => .inl (.inr e)))) hlen).mono ?_
  rintro e w' ⟨rfl, hp', hfr⟩
  have hpl := hx.vp.port_ hp' hfr
  have hst : (vDel b n s1 f).1 = (if f.length < 14 ∨ f.length > 1514 then 14 else (vDeliver b n f 65536 s1.M s1.pi).1) ∧ (vDel b n s1 f).2 = { s1 with M := if f.length < 14 ∨ f.length > 1514 then s1.M else (vDeliver b n f 65536 s1.M s1.pi).2.1, pi := if f.length < 14 ∨ f.length > 1514 then s1.pi else (vDeliver b n f 65536 s1.M s1.pi).2.2 } := by
    unfold vDel
    by_cases hb : f.length < 14 ∨ f.length > 1514
    · simp only [if_pos hb]; refine ⟨?_, ?_⟩ <;> first | rfl | trivial
    · simp only [if_neg hb]; refine ⟨?_, ?_⟩ <;> first | rfl | trivial
  rw [hst.1, hst.2]
  refine ⟨rfl, _, ⟨hfit, hL, _, _, _, _, _, _, _, _, _, _, _, _, _, _, hx.prog (hfr.weaken (fun k _ e => .inr e)) hpl (fun k hk => .inl hk) (d' := d) hx.m1d (Nat.le_refl _) hx.b1, rfl⟩, hfr.weaken (fun k _ e => .inl (.inr e)), fun k hk => .inl hk⟩
theorem d_deliver {v : Value} {f : List UInt8} (h : PlV w B gm gx L b n gC gP gD gQ d F s1 s2) (hf : ∀ w', Frame F w w' → Bs w' v f) (hlen : f.length ≤ 100000) :
    Calls Try.prog 20 #[.pointer (some ⟨gQ, 0, none⟩), v] w fun e w' => e = .returned (.int .i64 (vDel b n s2 f).1) ∧ PlVPost B gm gx L b n gC gP gD gQ d F s1 (vDel b n s2 f).2 w w' := by
  obtain ⟨hfit, hL, gdi, gdo, m, I, m2, gi, go, vi, vo, hi, ho, col, rdi, rdo, hx, rfl⟩ := h
  have hgx : col gx ≠ 0 := by rw [hx.rc.cm]; decide
  refine (rdeliver_at B gx L b n gQ s2.M s2.pi s2.po rdi rdo v f w hx.rp hfit (by omega) (fun w' hf' => hf w' (hf'.weaken (fun k _ e => e.elim (fun e => .inr (.inr e)) (fun e => .inr (.inl (by rw [e]; exact hgx)))))) hlen).mono ?_
  rintro e w' ⟨rfl, hp', hfr⟩
  have hpl := hx.port hfr hp'
  have hst : (vDel b n s2 f).1 = (if f.length < 14 ∨ f.length > 1514 then 14 else (vDeliver b n f 65536 s2.M s2.pi).1) ∧ (vDel b n s2 f).2 = { s2 with M := if f.length < 14 ∨ f.length > 1514 then s2.M else (vDeliver b n f 65536 s2.M s2.pi).2.1, pi := if f.length < 14 ∨ f.length > 1514 then s2.pi else (vDeliver b n f 65536 s2.M s2.pi).2.2 } := by
    unfold vDel
    by_cases hb : f.length < 14 ∨ f.length > 1514
    · simp only [if_pos hb]; refine ⟨?_, ?_⟩ <;> first | rfl | trivial
    · simp only [if_neg hb]; refine ⟨?_, ?_⟩ <;> first | rfl | trivial
  rw [hst.1, hst.2]
  exact ⟨rfl, _, ⟨hfit, hL, _, _, _, _, _, _, _, _, _, _, _, _, _, _, hpl, rfl⟩, hfr.weaken (fun k _ e => e.elim (fun e => .inr (.inr e)) (fun e => .inr (.inl (by rw [e]; exact hgx)))), fun k hk => .inl hk⟩
theorem p_receive (h : PlV w B gm gx L b n gC gP gD gQ d F s1 s2) (hd : d < 800000000) :
    Calls Try.prog 17 #[.pointer (some ⟨gC, 0, none⟩)] w fun e w' => ∃ v F', e = .returned v ∧ PlV w' B gm gx L b n gC gP gD gQ (d + 65536) F' (vRcv b n s1).2 s2 ∧ Frame F w w' ∧ (∀ k, F' k → F k ∨ w.heap.size ≤ k) ∧ RowsN w' w.heap.size F' v (vRcv b n s1).1 := by
  obtain ⟨hfit, hL, gdi, gdo, m, I, m2, gi, go, vi, vo, hi, ho, col, rdi, rdo, hx, rfl⟩ := h
  have hm := hx.m1d
  refine (vreceive_at B gm L b n gC s1 m I w hx.vp.card hfit (by omega) (by omega) hx.b1).mono ?_
  rintro e w' ⟨v, m', I', rfl, hc', hm', hfr, hI, hr, hbz⟩
  have hpl := hx.vp.card_ hc' hfr hI
  have hF : ∀ k, plFoot gm gC gP gdi gdo I' col gQ rdi rdo k → plFoot gm gC gP gdi gdo I col gQ rdi rdo k ∨ w.heap.size ≤ k := fun k hk => by
    rcases hk with e | e
    · exact (vfoot_next hI k e).imp_left .inl
    · exact .inl (.inr e)
  refine ⟨v, _, rfl, ⟨hfit, hL, _, _, _, _, _, _, _, _, _, _, _, _, _, _, hx.prog (s := (vRcv b n s1).2) (hfr.weaken (fun k _ e => e.imp_right .inr)) hpl (vfoot_next hI) (d' := d + 65536) (by omega) (by omega) hbz, rfl⟩, hfr.weaken (fun k _ e => .inl (e.imp_right .inr)), hF, hr.step (Frame.refl (fun _ => False) _) (fun k k1 k2 k3 => ⟨id, fun e => ?_⟩)⟩
  rcases e with (e | e) | e
  · exact k3 e
  · have := (hx.bd k (.inl (.inr e))).2
    omega
  · have := (hx.bd k (.inr e)).2
    omega
theorem d_receive (h : PlV w B gm gx L b n gC gP gD gQ d F s1 s2) (hd : d < 800000000) :
    Calls Try.prog 18 #[.pointer (some ⟨gD, 0, none⟩)] w fun e w' => ∃ v F', e = .returned v ∧ PlV w' B gm gx L b n gC gP gD gQ (d + 65536) F' s1 (vRcv b n s2).2 ∧ Frame F w w' ∧ (∀ k, F' k → F k ∨ w.heap.size ≤ k) ∧ RowsN w' w.heap.size F' v (vRcv b n s2).1 := by
  obtain ⟨hfit, hL, gdi, gdo, m, I, m2, gi, go, vi, vo, hi, ho, col, rdi, rdo, hx, rfl⟩ := h
  have hm := hx.m2d
  refine (rreceive_at B gx L b n gD s2 m2 gi go vi vo hi ho col w hx.rc hx.ti hfit (by omega) (by omega) hx.b2).mono ?_
  rintro e w' ⟨v, m', vi', hi', col', rfl, hr', ht', hm', hfr, hon, hrows, hbz⟩
  refine ⟨v, _, rfl, ⟨hfit, hL, _, _, _, _, _, _, _, _, _, _, _, _, _, _, hx.card (s := (vRcv b n s2).2) hfr hr' hon ⟨rfl, rfl⟩ ht' hx.to_ (d' := d + 65536) (by omega) (by omega) hbz, rfl⟩, hfr.weaken (fun k _ e => .inr (.inl e)), fun k hk => ?_, hrows.step (Frame.refl (fun _ => False) _) (fun k k1 k2 k3 => ⟨id, fun e => ?_⟩)⟩
  · rcases hk with e | e | e
    · exact .inl (.inl e)
    · exact (onto_ne hon k e).imp_left (fun e => .inr (.inl e))
    · exact .inl (.inr (.inr e))
  · rcases e with e | e | e
    · have := (hx.bd k (.inl e)).2
      omega
    · exact k3 e
    · have := (hx.bd k (.inr (.inr e))).2
      omega
theorem p_sent (h : PlV w B gm gx L b n gC gP gD gQ d F s1 s2) :
    Calls Try.prog 21 #[.pointer (some ⟨gP, 0, none⟩)] w fun e w' => ∃ v, e = .returned v ∧ PlV w' B gm gx L b n gC gP gD gQ d F (vSnt b n s1).2 s2 ∧ Frame F w w' ∧ RowsN w' w.heap.size F v (vSnt b n s1).1 := by
  obtain ⟨hfit, hL, gdi, gdo, m, I, m2, gi, go, vi, vo, hi, ho, col, rdi, rdo, hx, rfl⟩ := h
  refine (vsent_at B gm L b n gP s1.M s1.pi s1.po gdi gdo w hx.vp.port hfit (by omega)).mono ?_
  rintro e w' ⟨v, rfl, hp', hfr, hr⟩
  have hpl := hx.vp.port_ hp' hfr
  refine ⟨v, rfl, ⟨hfit, hL, _, _, _, _, _, _, _, _, _, _, _, _, _, _, hx.prog (s := (vSnt b n s1).2) (hfr.weaken (fun k _ e => .inr e)) hpl (fun k hk => .inl hk) (d' := d) hx.m1d (Nat.le_refl _) hx.b1, rfl⟩, hfr.weaken (fun k _ e => .inl (.inr e)), hr.step (Frame.refl (fun _ => False) _) (fun k k1 k2 k3 => ⟨id, fun e => ?_⟩)⟩
  have := (hx.bd k e).2
  omega
theorem d_sent (h : PlV w B gm gx L b n gC gP gD gQ d F s1 s2) :
    Calls Try.prog 22 #[.pointer (some ⟨gQ, 0, none⟩)] w fun e w' => ∃ v, e = .returned v ∧ PlV w' B gm gx L b n gC gP gD gQ d F s1 (vSnt b n s2).2 ∧ Frame F w w' ∧ RowsN w' w.heap.size F v (vSnt b n s2).1 := by
  obtain ⟨hfit, hL, gdi, gdo, m, I, m2, gi, go, vi, vo, hi, ho, col, rdi, rdo, hx, rfl⟩ := h
  have hgx : col gx ≠ 0 := by rw [hx.rc.cm]; decide
  refine (rsent_at B gx L b n gQ s2.M s2.pi s2.po rdi rdo w hx.rp hfit (by omega)).mono ?_
  rintro e w' ⟨v, rfl, hp', hfr, hr⟩
  have hpl := hx.port hfr hp'
  refine ⟨v, rfl, ⟨hfit, hL, _, _, _, _, _, _, _, _, _, _, _, _, _, _, hpl, rfl⟩, hfr.weaken (fun k _ e => e.elim (fun e => .inr (.inr e)) (fun e => .inr (.inl (by rw [e]; exact hgx)))), hr.step (Frame.refl (fun _ => False) _) (fun k k1 k2 k3 => ⟨id, fun e => ?_⟩)⟩
  have := (hx.bd k e).2
  omega
end
end Go.Proofs.Ytgiegiobigdplaa
