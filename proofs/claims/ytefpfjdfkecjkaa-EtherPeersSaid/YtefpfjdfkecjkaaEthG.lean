/- What peers are in memory; New, Known, Find. -/
import Derived.Test.YtefpfjdfkecjkaaDelE
import Derived.Test.YtefpfjdfkecjkaaFrame
namespace Go.Proofs.Ytefpfjdfkecjkaa
open Go Go.RowKit
attribute [local go_sem ↓] Go.wp_at_zero Go.wp_at_succ
set_option maxRecDepth 100000

theorem RowAt.toS {w : World} {base : Nat} {e : TypeId} {v : Value} {xs : List Value} (h : RowAt w base e v xs) : RowAtS w base e 1 v xs.length xs := by
  refine ⟨by omega, ?_⟩
  rcases h with ⟨rfl, rfl⟩ | ⟨g, off, cap, cur, rfl, h1, h2, h3, h4, h5, h6⟩
  · exact .inl ⟨rfl, rfl⟩
  · exact .inr ⟨g, off, cap, cur, rfl, h1, h2, h3, by omega, by omega, by rw [Nat.mul_one]; exact h6⟩
theorem RowAtS.toAt {w : World} {base : Nat} {e : TypeId} {v : Value} {xs : List Value} {n : Nat} (h : RowAtS w base e 1 v n xs) : RowAt w base e v xs := by
  have hl := h.1
  rw [Nat.mul_one] at hl
  subst hl
  rcases h.2 with ⟨rfl, h0⟩ | ⟨g, off, cap, cur, rfl, h1, h2, h3, h4, h5, h6⟩
  · exact .inl ⟨rfl, List.eq_nil_of_length_eq_zero h0⟩
  · exact .inr ⟨g, off, cap, cur, rfl, h1, h2, h3, by omega, h5, by rw [Nat.mul_one] at h6; exact h6⟩

abbrev Peer := Nat × Mac
def ipV (x : Peer) : Value := .int .u32 (x.1 : Int)
structure PeersAt (w : World) (base g : Nat) (mac : Mac) (ip : Nat) (l : List Peer) (m : Nat) (vr : Value) (gM : Nat) (f : Nat → Option Value) (F : Nat → Prop) : Prop where
  tab : Blk w g 70 (mac.cells ++ [.int .u32 (ip : Int), .map (some gM), vr])
  row : RowAtS w base 40 1 vr l.length (l.map ipV)
  map : MapU Try.prog 40 w gM m f
  hit : ∀ x ∈ l, f x.1 = some x.2.val
  miss : ∀ k, (∀ x ∈ l, x.1 ≠ k) → f k = none
  nodup : (l.map (·.1)).Nodup
  len : l.length ≤ 16
  oks : ∀ x ∈ l, x.1 < 4294967296 ∧ x.1 ≠ 0
  fg : F g
  fM : F gM
  fr : ∀ k, vr.ownBlock = some k → F k
  flt : ∀ k, F k → base ≤ k ∧ k < w.heap.size
/-- peers in block g: their own address, whom they know (the newest last); F: their blocks; at most m stores into the map -/
def PeersInv (w : World) (base g : Nat) (mac : Mac) (ip : Nat) (l : List Peer) (m : Nat) (F : Nat → Prop) : Prop := ∃ vr gM f, PeersAt w base g mac ip l m vr gM f F
theorem PeersAt.same {w w' : World} {base g : Nat} {mac : Mac} {ip : Nat} {l : List Peer} {m : Nat} {vr : Value} {gM : Nat} {f : Nat → Option Value} {F : Nat → Prop} (h : PeersAt w base g mac ip l m vr gM f F) (hs : ∀ k, F k → w'.heap[k]? = w.heap[k]?) (hz : w.heap.size ≤ w'.heap.size) : PeersAt w' base g mac ip l m vr gM f F where
  tab := (hs g h.fg).trans h.tab
  row := h.row.same fun k hk => hs k (h.fr k hk)
  map := h.map.block (hs gM h.fM)
  hit := h.hit
  miss := h.miss
  nodup := h.nodup
  len := h.len
  oks := h.oks
  fg := h.fg
  fM := h.fM
  fr := h.fr
  flt := fun k hk => ⟨(h.flt k hk).1, Nat.lt_of_lt_of_le (h.flt k hk).2 hz⟩
theorem PeersInv.same {w w' : World} {base g : Nat} {mac : Mac} {ip : Nat} {l : List Peer} {m : Nat} {F : Nat → Prop} (h : PeersInv w base g mac ip l m F) (hs : ∀ k, F k → w'.heap[k]? = w.heap[k]?) (hz : w.heap.size ≤ w'.heap.size) : PeersInv w' base g mac ip l m F := by
  obtain ⟨vr, gM, f, h⟩ := h
  exact ⟨vr, gM, f, h.same hs hz⟩
theorem PeersAt.keep {w w' : World} {base g : Nat} {mac : Mac} {ip : Nat} {l : List Peer} {m : Nat} {vr : Value} {gM : Nat} {f : Nat → Option Value} {F : Nat → Prop} (h : PeersAt w base g mac ip l m vr gM f F) (hb : Below w.heap.size w w') : PeersAt w' base g mac ip l m vr gM f F :=
  h.same (fun k hk => hb.block k (h.flt k hk).2) hb.size
theorem PeersInv.keep {w w' : World} {base g : Nat} {mac : Mac} {ip : Nat} {l : List Peer} {m : Nat} {F : Nat → Prop} (h : PeersInv w base g mac ip l m F) (hb : Below w.heap.size w w') : PeersInv w' base g mac ip l m F := by
  obtain ⟨vr, gM, f, h⟩ := h
  exact ⟨vr, gM, f, h.keep hb⟩
theorem PeersInv.lt {w : World} {base g : Nat} {mac : Mac} {ip : Nat} {l : List Peer} {m : Nat} {F : Nat → Prop} (h : PeersInv w base g mac ip l m F) (k : Nat) (hk : F k) : base ≤ k ∧ k < w.heap.size := by
  obtain ⟨vr, gM, f, h⟩ := h
  exact h.flt k hk
theorem PeersInv.len {w : World} {base g : Nat} {mac : Mac} {ip : Nat} {l : List Peer} {m : Nat} {F : Nat → Prop} (h : PeersInv w base g mac ip l m F) : l.length ≤ 16 := by
  obtain ⟨vr, gM, f, h⟩ := h
  exact h.len
theorem PeersInv.frame {w w' : World} {base g : Nat} {mac : Mac} {ip : Nat} {l : List Peer} {m : Nat} {F F' : Nat → Prop} (h : PeersInv w base g mac ip l m F) (hf : Frame F' w w') (hd : ∀ k, F k → ¬ F' k) : PeersInv w' base g mac ip l m F :=
  h.same (fun k hk => hf.block k (h.lt k hk).2 (hd k hk)) hf.size
theorem PeersInv.mono {w : World} {base base' g : Nat} {mac : Mac} {ip : Nat} {l : List Peer} {m m' : Nat} {F : Nat → Prop} (h : PeersInv w base g mac ip l m F) (hb : base' ≤ base) (hm : m ≤ m') : PeersInv w base' g mac ip l m' F := by
  obtain ⟨vr, gM, f, h⟩ := h
  exact ⟨vr, gM, f, h.tab, h.row.mono hb, h.map.mono hm, h.hit, h.miss, h.nodup, h.len, h.oks, h.fg, h.fM, h.fr, fun k hk => ⟨Nat.le_trans hb (h.flt k hk).1, (h.flt k hk).2⟩⟩

theorem new_any (mac : Mac) (ip : Nat) (w : World) :
    Calls Try.prog 14 #[mac.val, .int .u32 (ip : Int)] w fun e w' => ∃ g F, e = .returned (.pointer (some ⟨g, 0, none⟩)) ∧ PeersInv w' w.heap.size g mac ip [] 0 F ∧ Below w.heap.size w w' := by
  have hmm := @run_makeMap Try.prog
  obtain ⟨a0, a1, a2, a3, a4, a5⟩ := mac
  dsimp only [Mac.val, Mac.cells]
  go_enter Try.func14, Try.ntmps14
  go_wp2_with fail
  go_ret
  have hb0 := below_alloc' (below_alloc' (below_alloc w (.cells #[.int .u8 (a0.toNat : Int), .int .u8 (a1.toNat : Int), .int .u8 (a2.toNat : Int), .int .u8 (a3.toNat : Int), .int .u8 (a4.toNat : Int), .int .u8 (a5.toNat : Int)] 23)) (.map #[] 0)) (.cells #[.int .u8 (a0.toNat : Int), .int .u8 (a1.toNat : Int), .int .u8 (a2.toNat : Int), .int .u8 (a3.toNat : Int), .int .u8 (a4.toNat : Int), .int .u8 (a5.toNat : Int), .int .u32 (ip : Int), .map (some (w.heap.size + 1)), .slice none 0 0] 70)
  refine ⟨w.heap.size + 1 + 1, fun k => k = w.heap.size + 1 + 1 ∨ k = w.heap.size + 1, rfl, ⟨.slice none 0 0, w.heap.size + 1, fun _ => none, ?_⟩, hb0⟩
  have hb := Blk.new ((w.alloc (.cells #[.int .u8 (a0.toNat : Int), .int .u8 (a1.toNat : Int), .int .u8 (a2.toNat : Int), .int .u8 (a3.toNat : Int), .int .u8 (a4.toNat : Int), .int .u8 (a5.toNat : Int)] 23)).alloc (.map #[] 0)) 70 #[.int .u8 (a0.toNat : Int), .int .u8 (a1.toNat : Int), .int .u8 (a2.toNat : Int), .int .u8 (a3.toNat : Int), .int .u8 (a4.toNat : Int), .int .u8 (a5.toNat : Int), .int .u32 (ip : Int), .map (some (w.heap.size + 1)), .slice none 0 0]
  simp only [World.size_alloc] at hb
  have hmap := (MapU.made Try.prog 40 (w.alloc (.cells #[.int .u8 (a0.toNat : Int), .int .u8 (a1.toNat : Int), .int .u8 (a2.toNat : Int), .int .u8 (a3.toNat : Int), .int .u8 (a4.toNat : Int), .int .u8 (a5.toNat : Int)] 23))).keep (below_alloc _ (.cells #[.int .u8 (a0.toNat : Int), .int .u8 (a1.toNat : Int), .int .u8 (a2.toNat : Int), .int .u8 (a3.toNat : Int), .int .u8 (a4.toNat : Int), .int .u8 (a5.toNat : Int), .int .u32 (ip : Int), .map (some (w.heap.size + 1)), .slice none 0 0] 70))
  simp only [World.size_alloc] at hmap
  exact ⟨hb, RowAtS.nil _ _ _ _, hmap, fun x hx => (by cases hx), fun _ _ => rfl, List.nodup_nil, by simp, fun x hx => (by cases hx), .inl rfl, .inr rfl, fun k hk => (by simp [Value.ownBlock] at hk), fun k hk => by simp only [World.size_alloc]; omega⟩

def pFind (l : List Peer) (x : Nat) : Option Mac := (l.find? fun p => decide (p.1 = x)).map (·.2)
theorem PeersAt.found {w : World} {base g : Nat} {mac : Mac} {ip : Nat} {l : List Peer} {m : Nat} {vr : Value} {gM : Nat} {f : Nat → Option Value} {F : Nat → Prop} (h : PeersAt w base g mac ip l m vr gM f F) (x : Nat) : f x = (pFind l x).map Mac.val := by
  unfold pFind
  cases e : l.find? (fun p => decide (p.1 = x)) with
  | none =>
    exact h.miss x fun p hp q => by
      have := List.find?_eq_none.1 e p hp
      simp [q] at this
  | some p =>
    have h1 := List.find?_some e
    simp at h1
    subst h1
    exact h.hit p (List.mem_of_find?_eq_some e)
theorem maczero (w : World) : (zeroValue 23).run Try.prog w = .ok Mac.zero.val w := by kernel_rfl
def FindPost (o : Option Mac) (w : World) (e : Ending) (w' : World) : Prop := e = .returned (.tuple #[(o.getD .zero).val, .bool o.isSome]) ∧ Below w.heap.size w w'

theorem find_any (base g : Nat) (mac : Mac) (ip : Nat) (l : List Peer) (m : Nat) (F : Nat → Prop) (x : Nat) (hx : x < 4294967296) (w : World) (h : PeersInv w base g mac ip l m F) :
    Calls Try.prog 22 #[.pointer (some ⟨g, 0, none⟩), .int .u32 (x : Int)] w (FindPost (pFind l x) w) := by
  obtain ⟨vr, gM, f, h⟩ := h
  have H := hid h
  have hf := h.found x
  have h1 := h.keep (below_alloc w (.cells #[.int .u8 0, .int .u8 0, .int .u8 0, .int .u8 0, .int .u8 0, .int .u8 0] 23))
  have c7 : (w.alloc (.cells #[.int .u8 0, .int .u8 0, .int .u8 0, .int .u8 0, .int .u8 0, .int .u8 0] 23)).cell? ⟨g, 7, none⟩ = some (.map (some gM)) := h1.tab.cell 7
  have hlk := h1.map.lookOk Try.underlying40 Try.underlying68 (maczero _) x hx
  rw [hf] at hlk
  have e1 : ((pFind l x).map Mac.val).getD Mac.zero.val = ((pFind l x).getD .zero).val := by cases pFind l x <;> rfl
  have e2 : ((pFind l x).map Mac.val).isSome = (pFind l x).isSome := by cases pFind l x <;> rfl
  rw [e1, e2] at hlk
  generalize pFind l x = o at *
  obtain ⟨mm, hmm⟩ : ∃ mm, o.getD .zero = mm := ⟨_, rfl⟩
  have Hmm := hid hmm
  rw [hmm] at hlk
  obtain ⟨bo, hbo⟩ : ∃ b, o.isSome = b := ⟨_, rfl⟩
  have Hbo := hid hbo
  rw [hbo] at hlk
  obtain ⟨a0, a1, a2, a3, a4, a5⟩ := mm
  dsimp only [Mac.val, Mac.cells] at hlk
  clear h hf h1 e1 e2 hmm hbo
  go_enter Try.func22, Try.ntmps22
  go_wp2_with fail
  refine ret_arr2 rfl _ _ _ _ _ rfl ((Blk.new w 23 #[.int .u8 (a0.toNat : Int), .int .u8 (a1.toNat : Int), .int .u8 (a2.toNat : Int), .int .u8 (a3.toNat : Int), .int .u8 (a4.toNat : Int), .int .u8 (a5.toNat : Int)]).alloc (.cells #[.int .u8 (a0.toNat : Int), .int .u8 (a1.toNat : Int), .int .u8 (a2.toNat : Int), .int .u8 (a3.toNat : Int), .int .u8 (a4.toNat : Int), .int .u8 (a5.toNat : Int)] 23)) Try.underlying23 macinfo (.bool bo) rfl rfl ?_
  unfold FindPost
  rw [Hmm.out, Hbo.out]
  exact ⟨rfl, below_alloc' (below_alloc w _) _⟩

theorem u32info : (Try.prog.info? 40).map (fun i => (i.zero, i.size, i.bytes)) = some (some (.int .u32 0), 1, 4) := by kernel_rfl
theorem u32ok : ElemOk Try.prog 52 40 (.int .u32 0) 1 4 := by
  obtain ⟨i, hi, hz, hs, hb⟩ := info_parts u32info
  exact ⟨Try.underlying52, ⟨i, hi, hz, hs, hb⟩, rfl, by decide, by decide⟩
theorem cloneU_any (v : Value) (n : Nat) (xs : List Value) (w : World) (h : RowN w 1 v n xs) (hone : ∀ u ∈ xs, u.oneCell' = true) (hsize : n ≤ 100000) :
    Calls Try.prog 37 #[v] w fun e w' => ∃ v', e = .returned v' ∧ w'.ownsRow w.heap.size 40 1 v' n xs ∧ Below w.heap.size w w' := by
  have Hb := hid h
  have Ho := hid hone
  obtain ⟨hl, A, cap, rfl, k1, k2, k3⟩ := h
  clear hone
  have qT : ∀ (w : World) (a : Option Addr) (n c n' c' : Nat), (binOp .eql 52 (.slice a n c) (.slice none n' c')).run Try.prog w = .ok (.bool a.isNone) w := fun w a n c n' c' => Lib.run_eql_slice_nil w _ _ a n c n' c' Try.underlying52
  cases A with
  | none =>
    have hn0 : n = 0 := by
      rcases k3 with k3 | ⟨_, _, k3, _⟩
      · exact k3
      · cases k3
    subst hn0
    have hxs : xs = [] := List.eq_nil_of_length_eq_zero (by simpa using hl)
    subst hxs
    clear k1 k2 k3 hl
    go_enter Try.func37, Try.ntmps37
    go_wp2
    go_ret
    exact ⟨_, rfl, World.ownsRow_nil _ _ _ _, Below.refl _ _⟩
  | some a =>
    clear k1 k2 k3 hl
    go_enter Try.func37, Try.ntmps37
    go_wp2_with (at_builtin; refine wpList_app _ rfl _ _ 52 rfl w.heap.size 40 (.int .u32 0) 1 4 u32ok _ 0 [] rfl (own_lit #[] 0 rfl (Nat.le_refl _) (by simp)) _ n xs rfl (Hb.out.alloc _) Ho.out (by omega) (by simp only [maxLen]; omega) (by simp) ?_; intro v1 w1 hown1 hg1 hat1; clear hat1; have Hg1 := hid hg1; clear hg1)
    rw [List.nil_append, Nat.zero_add] at hown1
    go_ret
    exact ⟨_, rfl, hown1, (below_alloc w (.cells #[] 40)).trans (grown_below (own_lit #[] 0 rfl (Nat.le_refl _) (by simp)) (by simp) Hg1.out)⟩
theorem known_list (base g : Nat) (mac : Mac) (ip : Nat) (l : List Peer) (m : Nat) (F : Nat → Prop) (w : World) (h : PeersInv w base g mac ip l m F) :
    Calls Try.prog 21 #[.pointer (some ⟨g, 0, none⟩)] w fun e w' => ∃ v', e = .returned v' ∧ w'.ownsRow w.heap.size 40 1 v' l.length (l.map ipV) ∧ Below w.heap.size w w' := by
  obtain ⟨vr, gM, f, h⟩ := h
  have c8 : w.cell? ⟨g, 8, none⟩ = some vr := h.tab.cell 8
  have HC := hid (cloneU_any vr l.length (l.map ipV) w h.row.rowN (by intro u hu; obtain ⟨x, _, rfl⟩ := List.mem_map.1 hu; rfl) (by have := h.len; omega))
  clear h
  go_enter Try.func21, Try.ntmps21
  go_wp2_with (go_at_call 37; refine HC.out.mono ?_; rintro e w' ⟨v', rfl, hown, hb⟩; have Hown := hid hown; have Hb := hid hb; clear hown hb)
  go_ret
  exact ⟨_, rfl, Hown.out, Hb.out⟩
end Go.Proofs.Ytefpfjdfkecjkaa
