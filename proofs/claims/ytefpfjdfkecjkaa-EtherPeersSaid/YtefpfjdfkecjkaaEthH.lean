/- Contract of peers' Learn. -/
import Derived.Test.YtefpfjdfkecjkaaEthG
namespace Go.Proofs.Ytefpfjdfkecjkaa
open Go Go.RowKit
attribute [local go_sem ↓] Go.wp_at_zero Go.wp_at_succ
set_option maxRecDepth 100000

theorem RowAt.slice {w : World} {base : Nat} {e : TypeId} {v : Value} {xs : List Value} (h : RowAt w base e v xs) : ∃ A c, v = .slice A xs.length c := by
  obtain ⟨_, A, c, rfl, _⟩ := h.rowN
  exact ⟨A, c, rfl⟩
theorem RowAtS.slice {w : World} {base size n : Nat} {e : TypeId} {v : Value} {xs : List Value} (h : RowAtS w base e size v n xs) : ∃ A c, v = .slice A n c := by
  obtain ⟨_, A, c, rfl, _⟩ := h.rowN
  exact ⟨A, c, rfl⟩
theorem cutU_from (A : Option Addr) (n cap : Nat) (lo : Int) (l k : Nat) (h1 : lo = l) (h2 : n = l + k) (h3 : n ≤ cap) (w : World) :
    (Instr.sliceAt 52 (.slice A n cap) (some (.int .i64 lo)) none none).run Try.prog w = .ok (.slice (cutA A cap l 1) k (cap - l)) w := by
  obtain ⟨i, hi, _, hs, _⟩ := info_parts u32info
  have := run_cut_from (P := Try.prog) (T := 52) Try.underlying52 hi A n cap .i64 lo l k h1 h2 h3 w
  rwa [hs] at this
theorem cell_grown {w w' : World} {g b o : Nat} {u : Value} (hg : w.grownBy w' (some b)) (hne : g ≠ b) (hc : w.cell? ⟨g, o, none⟩ = some u) : w'.cell? ⟨g, o, none⟩ = some u := by
  have hlt := World.block_lt_of_cell? w _ hc
  have e := hg.block g hlt (fun e => by injection e with e; exact hne e)
  simpa [World.cell?, e] using hc
theorem isIp_any (y x gb : Nat) (w : World) (h : Blk w gb 40 [.int .u32 (x : Int)]) :
    Calls Try.prog 31 #[.int .u32 (y : Int), .pointer (some ⟨gb, 0, none⟩)] w fun e w' => e = .returned (.bool (decide (y = x))) ∧ ∃ q, w' = w.drewN q := by
  have c0 := h.cell 0
  go_enter Try.func31, Try.ntmps31
  go_wp2_with fail
  go_ret
  refine ⟨ret_bool ?_, 0, rfl⟩
  by_cases e : y = x <;> simp [e]
  all_goals omega

def pLearn (l : List Peer) (x : Nat) (mm : Mac) : List Peer :=
  if x = 0 then l else ((if (l.filter fun p => !decide (p.1 = x)).length = 16 then (l.filter fun p => !decide (p.1 = x)).drop 1 else l.filter fun p => !decide (p.1 = x)) ++ [(x, mm)])
def isX (x : Nat) (u : Value) : Bool := match u with
  | .int _ n => decide (n = (x : Int))
  | _ => false
theorem filter_ip (l : List Peer) (x : Nat) : (l.map ipV).filter (fun u => !isX x u) = (l.filter fun p => !decide (p.1 = x)).map ipV := by
  induction l with
  | nil => rfl
  | cons p l ih =>
    have e : isX x (ipV p) = decide (p.1 = x) := by
      show decide ((p.1 : Int) = (x : Int)) = _
      congr 1
      simp only [eq_iff_iff]
      omega
    rw [List.map_cons, List.filter_cons, List.filter_cons, e]
    by_cases h : p.1 = x <;> simp [h, ih]

/-- whom the map knows while x is learned -/
structure LMap (l : List Peer) (f : Nat → Option Value) (x : Nat) : Prop where
  hit : ∀ y ∈ l, f y.1 = some y.2.val
  miss : ∀ k, k ≠ x → (∀ y ∈ l, y.1 ≠ k) → f k = none
  nodup : (l.map (·.1)).Nodup
  nx : ∀ y ∈ l, y.1 ≠ x
  oks : ∀ y ∈ l, y.1 < 4294967296 ∧ y.1 ≠ 0
  was : ∃ om : Option Mac, f x = om.map Mac.val
theorem LMap.first {l : List Peer} {f : Nat → Option Value} (x : Nat) (was : ∃ om : Option Mac, f x = om.map Mac.val) (hit : ∀ y ∈ l, f y.1 = some y.2.val) (miss : ∀ k, (∀ y ∈ l, y.1 ≠ k) → f k = none) (nodup : (l.map (·.1)).Nodup) (oks : ∀ y ∈ l, y.1 < 4294967296 ∧ y.1 ≠ 0) : LMap (l.filter fun p => !decide (p.1 = x)) f x where
  hit y hy := hit y (List.mem_filter.1 hy).1
  miss k hk hn := miss k fun y hy e => by
    by_cases hx : y.1 = x
    · exact hk (by rw [← e, hx])
    · exact hn y (List.mem_filter.2 ⟨hy, by simp [hx]⟩) e
  nodup := ((List.filter_sublist).map _).nodup nodup
  nx y hy := by have := (List.mem_filter.1 hy).2; simpa using this
  oks y hy := oks y (List.mem_filter.1 hy).1
  was := was
theorem LMap.dropped {p : Peer} {r : List Peer} {f : Nat → Option Value} {x : Nat} (h : LMap (p :: r) f x) : LMap r (updU f p.1 none) x := by
  have hn := h.nodup
  rw [List.map_cons, List.nodup_cons] at hn
  refine ⟨fun y hy => ?_, fun k hk hn2 => ?_, hn.2, fun y hy => h.nx y (List.mem_cons_of_mem _ hy), fun y hy => h.oks y (List.mem_cons_of_mem _ hy), by unfold updU; rw [if_neg (fun e => h.nx p (List.mem_cons_self ..) e.symm)]; exact h.was⟩
  · unfold updU
    rw [if_neg (fun e => hn.1 (List.mem_map.2 ⟨y, hy, e⟩))]
    exact h.hit y (List.mem_cons_of_mem _ hy)
  · unfold updU
    by_cases e : k = p.1
    · rw [if_pos e]
    · rw [if_neg e]
      refine h.miss k hk fun y hy => ?_
      rcases List.mem_cons.1 hy with rfl | hy
      · exact fun q => e q.symm
      · exact hn2 y hy
theorem LMap.last {l : List Peer} {f f' : Nat → Option Value} {x : Nat} {mm : Mac} (h : LMap l f x) (hf : ∀ k, f' k = if k = x then some mm.val else f k) (hx : x < 4294967296) (hx0 : x ≠ 0) :
    (∀ y ∈ l ++ [(x, mm)], f' y.1 = some y.2.val) ∧ (∀ k, (∀ y ∈ l ++ [(x, mm)], y.1 ≠ k) → f' k = none) ∧ ((l ++ [(x, mm)]).map (·.1)).Nodup ∧ ∀ y ∈ l ++ [(x, mm)], y.1 < 4294967296 ∧ y.1 ≠ 0 := by
  refine ⟨fun y hy => ?_, fun k hk => ?_, ?_, fun y hy => ?_⟩
  · rw [hf]
    rcases List.mem_append.1 hy with hy | hy
    · rw [if_neg (h.nx y hy)]; exact h.hit y hy
    · simp at hy; subst hy; rw [if_pos rfl]
  · rw [hf, if_neg (fun e => hk (x, mm) (by simp) e.symm)]
    exact h.miss k (fun e => hk (x, mm) (by simp) e.symm) fun y hy => hk y (by simp [hy])
  · rw [List.map_append, List.nodup_append]
    refine ⟨h.nodup, by simp, fun a ha b hb => ?_⟩
    simp at hb
    subst hb
    obtain ⟨y, hy, rfl⟩ := List.mem_map.1 ha
    exact h.nx y hy
  · rcases List.mem_append.1 hy with hy | hy
    · exact h.oks y hy
    · simp at hy; subst hy; exact ⟨hx, hx0⟩
theorem RowAtS.blk {w : World} {base size n k : Nat} {e : TypeId} {v : Value} {xs : List Value} (h : RowAtS w base e size v n xs) (hk : v.ownBlock = some k) : ∃ cur, Blk w k e cur := by
  rcases h.2 with ⟨rfl, _⟩ | ⟨g, off, cap, cur, rfl, _, hb, _⟩
  · simp [Value.ownBlock] at hk
  · simp [Value.ownBlock] at hk
    subst hk
    exact ⟨cur, hb⟩
theorem MapU.row {w w' : World} {b n size m base : Nat} {f : Nat → Option Value} {e : TypeId} {v : Value} {xs : List Value} (h : MapU Try.prog 40 w b n f) (hr : RowAtS w base e size v m xs) (hg : w.grownBy w' v.ownBlock) : MapU Try.prog 40 w' b n f :=
  h.kept hg fun e => by
    obtain ⟨cur, hb⟩ := hr.blk e.symm
    exact h.ne hb rfl

/-- while an address is learned -/
structure LMid (w0 w : World) (base g : Nat) (mac : Mac) (ip : Nat) (l : List Peer) (m : Nat) (vr : Value) (gM : Nat) (f : Nat → Option Value) (F : Nat → Prop) (x : Nat) (mm : Mac) : Prop where
  tab : Blk w g 70 (mac.cells ++ [.int .u32 (ip : Int), .map (some gM), vr])
  row : RowAtS w base 40 1 vr l.length (l.map ipV)
  map : MapU Try.prog 40 w gM m f
  bx : Blk w w0.heap.size 40 [.int .u32 (x : Int)]
  bm : Blk w (w0.heap.size + 1) 23 mm.cells
  fr : ∀ k, vr.ownBlock = some k → F k ∨ w0.heap.size + 2 ≤ k
  fra : Frame (fun k => F k ∨ w0.heap.size ≤ k) w0 w

theorem LMid.grew {w0 w wy w' : World} {base g : Nat} {mac : Mac} {ip : Nat} {l : List Peer} {m : Nat} {vr : Value} {gM : Nat} {f : Nat → Option Value} {F : Nat → Prop} {x : Nat} {mm : Mac}
    (h : LMid w0 w base g mac ip l m vr gM f F x mm) (hF : ∀ k, F k → k < w0.heap.size) (hb : Below w.heap.size w wy) (hg : wy.grownBy w' vr.ownBlock) :
    Blk w' g 70 (mac.cells ++ [.int .u32 (ip : Int), .map (some gM), vr]) ∧ MapU Try.prog 40 w' gM m f ∧ Blk w' w0.heap.size 40 [.int .u32 (x : Int)] ∧ Blk w' (w0.heap.size + 1) 23 mm.cells ∧ Frame (fun k => F k ∨ w0.heap.size ≤ k) w0 w' := by
  have hn : ∀ k, k < w0.heap.size + 2 → ¬ F k → some k ≠ vr.ownBlock := fun k hk hf e => by
    rcases h.fr k e.symm with q | q
    · exact hf q
    · omega
  have hx := hn w0.heap.size (by omega) (fun q => by have := hF _ q; omega)
  have hm := hn (w0.heap.size + 1) (by omega) (fun q => by have := hF _ q; omega)
  refine ⟨(h.tab.keep hb).grown hg (fun e => h.row.ne h.tab (by decide) e.symm), (h.map.keep hb).row (h.row.keep hb) hg, (h.bx.keep hb).grown hg hx, (h.bm.keep hb).grown hg hm, (h.fra.trans (Below.frameF hb _) (fun _ _ q => q)).trans (frame_grown hg (F := fun k => F k ∨ w0.heap.size ≤ k) fun k hk => ?_) (fun _ _ q => q)⟩
  rcases h.fr k hk with q | q
  · exact .inl q
  · exact .inr (by omega)
/-- a store of the row's new value -/
theorem LMid.push {w0 w wy w' : World} {base g : Nat} {mac : Mac} {ip : Nat} {l l' : List Peer} {m : Nat} {vr v' : Value} {gM : Nat} {f : Nat → Option Value} {F : Nat → Prop} {x : Nat} {mm : Mac}
    (h : LMid w0 w base g mac ip l m vr gM f F x mm) (hF : ∀ k, F k → k < w0.heap.size) (hg0 : F g) (h2 : w0.heap.size + 2 ≤ w.heap.size) (hb : Below w.heap.size w wy) (hg : wy.grownBy w' vr.ownBlock)
    (hr : RowAtS w' base 40 1 v' l'.length (l'.map ipV)) (hv : v'.ownBlock = vr.ownBlock ∨ v'.ownBlock = some wy.heap.size) : LMid w0 (w'.setCell ⟨g, 8, none⟩ v') base g mac ip l' m v' gM f F x mm := by
  obtain ⟨h1, h3, h4, h5, h6⟩ := h.grew hF hb hg
  have hgs := grown_set w' g 8 v'
  have hgl := hF g hg0
  refine ⟨h1.set_ 8 v', hr.kept hgs (fun k hk e => ?_), h3.grownCells h1 hgs, h4.grown hgs (fun e => by injection e with e; omega), h5.grown hgs (fun e => by injection e with e; omega), fun k hk => ?_, h6.trans (frame_grown hgs (F := fun k => F k ∨ w0.heap.size ≤ k) fun k hk => by injection hk with hk; subst hk; exact .inl hg0) (fun _ _ q => q)⟩
  · injection e with e
    subst e
    exact hr.ne h1 (by decide) hk
  · rcases hv with hv | hv
    · exact h.fr k (by rw [← hv]; exact hk)
    · rw [hv] at hk
      injection hk with hk
      have := hb.size
      exact .inr (by omega)

set_option maxHeartbeats 2000000 in
theorem learn_any (base g : Nat) (mac : Mac) (ip : Nat) (l : List Peer) (m : Nat) (F : Nat → Prop) (x : Nat) (hx : x < 4294967296) (mm : Mac) (w : World) (h : PeersInv w base g mac ip l m F) (hm : m < 100000) :
    Calls Try.prog 15 #[.pointer (some ⟨g, 0, none⟩), .int .u32 (x : Int), mm.val] w fun e w' => (∃ u, e = .returned u) ∧ ∃ F', PeersInv w' base g mac ip (pLearn l x mm) (m + 1) F' ∧ Frame F w w' ∧ ∀ k, F' k → F k ∨ w.heap.size ≤ k := by
  by_cases hx0 : x = 0
  · have hp : pLearn l x mm = l := by unfold pLearn; rw [if_pos hx0]
    rw [hp]
    have hx0I : ((x : Int) == 0) = true := by simp; omega
    have H := hid h
    obtain ⟨a0, a1, a2, a3, a4, a5⟩ := mm
    clear hp h hx0
    dsimp only [Mac.val, Mac.cells]
    go_enter Try.func15, Try.ntmps15
    go_wp2_with fail
    refine bodyPost_ret (v := .tuple #[]) (results_none rfl _ _ _) rfl ?_
    have hb := below_alloc' (below_alloc w (.cells #[.int .u32 (x : Int)] 40)) (.cells #[.int .u8 (a0.toNat : Int), .int .u8 (a1.toNat : Int), .int .u8 (a2.toNat : Int), .int .u8 (a3.toNat : Int), .int .u8 (a4.toNat : Int), .int .u8 (a5.toNat : Int)] 23)
    exact ⟨⟨_, rfl⟩, F, (H.out.mono (Nat.le_refl _) (Nat.le_succ m)).keep hb, Below.frameF hb F, fun k hk => .inl hk⟩
  obtain ⟨l1, hl1⟩ : ∃ l1, (l.filter fun p => !decide (p.1 = x)) = l1 := ⟨_, rfl⟩
  have Hx0 := hid hx0
  have Hp := hid (show pLearn l x mm = (if l1.length = 16 then l1.drop 1 else l1) ++ [(x, mm)] by unfold pLearn; rw [if_neg hx0, hl1])
  obtain ⟨vr, gM, f, h⟩ := h
  have H := hid h
  obtain ⟨a0, a1, a2, a3, a4, a5⟩ := mm
  have hx0I : ((x : Int) == 0) = false := by simp; omega
  have hb1 := below_alloc' (below_alloc w (.cells #[.int .u32 (x : Int)] 40)) (.cells #[.int .u8 (a0.toNat : Int), .int .u8 (a1.toNat : Int), .int .u8 (a2.toNat : Int), .int .u8 (a3.toNat : Int), .int .u8 (a4.toNat : Int), .int .u8 (a5.toNat : Int)] 23)
  have K1 := hid (h.keep hb1)
  have c8 : ((w.alloc (.cells #[.int .u32 (x : Int)] 40)).alloc (.cells #[.int .u8 (a0.toNat : Int), .int .u8 (a1.toNat : Int), .int .u8 (a2.toNat : Int), .int .u8 (a3.toNat : Int), .int .u8 (a4.toNat : Int), .int .u8 (a5.toNat : Int)] 23)).cell? ⟨g, 8, none⟩ = some vr := K1.out.tab.cell 8
  have eg : ∀ args w, (callFunc 31 args).run Try.prog w = .ok (.enter 31 args) w := enters_of Try.func31 (by kernel_rfl) rfl
  have hbx := ((Blk.new w 40 #[.int .u32 (x : Int)]).alloc (.cells #[.int .u8 (a0.toNat : Int), .int .u8 (a1.toNat : Int), .int .u8 (a2.toNat : Int), .int .u8 (a3.toNat : Int), .int .u8 (a4.toNat : Int), .int .u8 (a5.toNat : Int)] 23))
  have Hbx := hid hbx
  have hbm := Blk.new (w.alloc (.cells #[.int .u32 (x : Int)] 40)) 23 #[.int .u8 (a0.toNat : Int), .int .u8 (a1.toNat : Int), .int .u8 (a2.toNat : Int), .int .u8 (a3.toNat : Int), .int .u8 (a4.toNat : Int), .int .u8 (a5.toNat : Int)]
  rw [World.size_alloc] at hbm
  have Hbm := hid hbm
  have hne : vr.ownBlock ≠ some w.heap.size := fun e => by have := (h.flt _ (h.fr _ e)).2; omega
  have hdel := delf_any 31 #[.pointer (some ⟨w.heap.size, 0, none⟩)] eg base vr (l.map ipV) (isX x) ((w.alloc (.cells #[.int .u32 (x : Int)] 40)).alloc (.cells #[.int .u8 (a0.toNat : Int), .int .u8 (a1.toNat : Int), .int .u8 (a2.toNat : Int), .int .u8 (a3.toNat : Int), .int .u8 (a4.toNat : Int), .int .u8 (a5.toNat : Int)] 23)) K1.out.row.toAt (by intro u hu; obtain ⟨y, _, rfl⟩ := List.mem_map.1 hu; rfl) (by
    intro wx hg u hu
    obtain ⟨y, _, rfl⟩ := List.mem_map.1 hu
    refine (isIp_any y.1 x w.heap.size wx (hbx.grown hg (fun e => hne e.symm))).mono ?_
    rintro e w' ⟨rfl, q⟩
    refine ⟨ret_bool ?_, q⟩
    show _ = decide ((y.1 : Int) = (x : Int))
    congr 1
    simp only [eq_iff_iff]
    omega)
  rw [filter_ip, hl1] at hdel
  have HD := hid hdel
  have Hl1 := hid hl1
  clear h hdel hbx hbm hne eg hl1 hb1 hx0
  dsimp only [Mac.val, Mac.cells]
  go_enter Try.func15, Try.ntmps15
  go_upto_region 3 with (go_at_call 30; refine HD.out.mono ?_; rintro e w2 ⟨v2, rfl, hrow, hg2, hv2⟩; obtain ⟨A2, cap2, rfl⟩ := hrow.slice; have tab2 := K1.out.tab.grown hg2 (fun e => (RowAtS.ne K1.out.row K1.out.tab (by decide)) e.symm); have c8b : w2.cell? ⟨g, 8, none⟩ = some vr := tab2.cell 8; have z8b := tab2.frozen 8; have Hrow := hid hrow; have Hg2 := hid hg2; have Hv2 := hid hv2; have Tab2 := hid tab2; clear hrow hg2 hv2 tab2)
  have M3 := hid (show LMid w (w2.setCell ⟨g, 8, none⟩ (.slice A2 l1.length cap2)) base g mac ip l1 m (.slice A2 l1.length cap2) gM f F x ⟨a0, a1, a2, a3, a4, a5⟩ from by
    have hgs := grown_set w2 g 8 (.slice A2 l1.length cap2)
    have hrow := Hrow.out.toS
    rw [List.length_map] at hrow
    have hng : ∀ t xs, Blk w2 g t xs → some g ≠ (Value.slice A2 l1.length cap2).ownBlock := fun t xs hb e => hrow.ne Tab2.out (by decide) e.symm
    have hb0 := Hbx.out.lt
    have hw1 := below_alloc' (below_alloc w (.cells #[.int .u32 (x : Int)] 40)) (.cells #[.int .u8 (a0.toNat : Int), .int .u8 (a1.toNat : Int), .int .u8 (a2.toNat : Int), .int .u8 (a3.toNat : Int), .int .u8 (a4.toNat : Int), .int .u8 (a5.toNat : Int)] 23)
    have hlx : ∀ k, F k → k < w.heap.size := fun k hk => (H.out.flt k hk).2
    refine ⟨Tab2.out.set_ 8 _, hrow.kept hgs (fun k hk e => ?_), (K1.out.map.row K1.out.row Hg2.out).grownCells Tab2.out hgs, ?_, ?_, fun k hk => .inl (H.out.fr k ?_), ?_⟩
    · injection e with e
      subst e
      exact hrow.ne Tab2.out (by decide) hk
    · exact (Hbx.out.grown Hg2.out (fun e => by have := hlx _ (H.out.fr _ e.symm); omega)).grown hgs (fun e => by injection e with e; have := hlx _ H.out.fg; omega)
    · exact (Hbm.out.grown Hg2.out (fun e => by have := hlx _ (H.out.fr _ e.symm); omega)).grown hgs (fun e => by injection e with e; have := hlx _ H.out.fg; omega)
    · rw [← Hv2.out]; cases A2 <;> exact hk
    · exact ((Below.frameF hw1 _).trans (frame_grown Hg2.out (F := fun k => F k ∨ w.heap.size ≤ k) (fun k hk => .inl (H.out.fr k hk))) (fun _ _ h => h)).trans (frame_grown hgs (F := fun k => F k ∨ w.heap.size ≤ k) (fun k hk => by injection hk with hk; subst hk; exact .inl H.out.fg)) (fun _ _ h => h))
  have L3 := hid (show LMap l1 f x by rw [← Hl1.out]; exact LMap.first x ⟨_, H.out.found x⟩ H.out.hit H.out.miss H.out.nodup H.out.oks)
  have Hlen := hid (show l1.length ≤ 16 by rw [← Hl1.out]; exact Nat.le_trans (List.length_filter_le _ _) H.out.len)
  clear c8b z8b Hrow Hg2 Hv2 Tab2 K1 Hbx Hbm HD
  generalize w2.setCell ⟨g, 8, none⟩ (.slice A2 l1.length cap2) = w3 at *
  have c8 : w3.cell? ⟨g, 8, none⟩ = some (.slice A2 l1.length cap2) := M3.out.tab.cell 8
  go_upto_if 24 with fail
  go_cut [] from 8 to 43 (fun wx => ∃ A c f2 l2, l2 = (if l1.length = 16 then l1.drop 1 else l1) ∧ LMid w wx base g mac ip l2 m (.slice A l2.length c) gM f2 F x ⟨a0, a1, a2, a3, a4, a5⟩ ∧ LMap l2 f2 x)
  case first =>
    by_cases hq : l1.length = 16
    · have hqb : ((l1.length : Int) == 16) = true := by simp; omega
      obtain ⟨p0, rest, hl⟩ : ∃ p0 rest, l1 = p0 :: rest := by
        match l1, hq with
        | p0 :: rest, _ => exact ⟨p0, rest, rfl⟩
      have Hpp := hid (show (if l1.length = 16 then l1.drop 1 else l1) = rest by rw [if_pos hq, hl]; rfl)
      subst hl
      obtain ⟨_, A', cap', hv', hcap1, hcap2, hA⟩ := M3.out.row.rowN
      injection hv' with e1 _ e2
      subst e1; subst e2
      obtain ⟨gr, off, rfl, hcell⟩ : ∃ gr off, A2 = some ⟨gr, off, none⟩ ∧ ∀ i u, ((p0 :: rest).map ipV)[i]? = some u → w3.cell? ⟨gr, off + i, none⟩ = some u := by
        rcases hA with h0 | h0
        · simp at h0
        · exact h0
      have hr0 : rest.length = 15 := by simp at hq; omega
      have hp0 : p0.1 < 4294967296 := (L3.out.oks p0 (List.mem_cons_self ..)).1
      have hc0 : w3.cell? ⟨gr, off, none⟩ = some (.int .u32 (p0.1 : Int)) := hcell 0 _ rfl
      have c7 : w3.cell? ⟨g, 7, none⟩ = some (.map (some gM)) := M3.out.tab.cell 7
      rw [hq] at c8 hcap1 hqb ⊢
      have cut1 := cutU_from (some ⟨gr, off, none⟩) 16 cap2 1 1 15 rfl (by omega) (by omega)
      have Hr0 := hid hr0
      have HP0 := hid hp0
      have Hq := hid hq
      have hng : g ≠ gM := M3.out.map.ne M3.out.tab
      have hgr : gr ≠ gM := by obtain ⟨cur, hcur⟩ := M3.out.row.blk (k := gr) rfl; exact M3.out.map.ne hcur
      have Hngr := hid (And.intro hng hgr)
      clear hA hcell hr0 hp0 hcap2 hq hng hgr
      go_wp2_with fail
      go_region_held3 (fun wy => wy.cell? ⟨g, 7, none⟩ = some (.map (some gM)) ∧ wy.cell? ⟨g, 8, none⟩ = some (.slice (some ⟨gr, off, none⟩) 16 cap2) ∧ wy.cell? ⟨gr, off, none⟩ = some (.int .u32 (p0.1 : Int))) (first | exact ⟨c7, c8, hc0⟩ | exact ⟨cell_below (below_drew _) c7, cell_below (below_drew _) c8, cell_below (below_drew _) hc0⟩ | exact HS4.out) (first
        | (refine step_deleteU (by rfl) _ _ 68 23 (by rfl) Try.underlying40 Try.underlying68 (by rfl) (by first | exact M3.out.map | exact M3.out.map.drew) p0.1 HP0.out (by rfl) ?_; intro w4 hm4 hg4; have Hm4 := hid hm4; have Hg4 := hid (show w3.grownBy w4 (some gM) from by first | exact hg4 | exact grown_trans (grown_drew w3 _) hg4); have HS4 := hid (show w4.cell? ⟨g, 7, none⟩ = some (.map (some gM)) ∧ w4.cell? ⟨g, 8, none⟩ = some (.slice (some ⟨gr, off, none⟩) 16 cap2) ∧ w4.cell? ⟨gr, off, none⟩ = some (.int .u32 (p0.1 : Int)) from ⟨cell_grown Hg4.out Hngr.out.1 c7, cell_grown Hg4.out Hngr.out.1 c8, cell_grown Hg4.out Hngr.out.2 hc0⟩); clear hm4 hg4)
        | fail)
      have M4 := hid (show LMid w w4 base g mac ip (p0 :: rest) m (.slice (some ⟨gr, off, none⟩) (p0 :: rest).length cap2) gM (updU f p0.1 none) F x ⟨a0, a1, a2, a3, a4, a5⟩ from
        ⟨M3.out.tab.mapWrite M3.out.map Hg4.out, M3.out.row.kept Hg4.out (fun k hk e => by injection hk with hk; injection e with e; exact Hngr.out.2 (hk.trans e)), Hm4.out, M3.out.bx.mapWrite M3.out.map Hg4.out, M3.out.bm.mapWrite M3.out.map Hg4.out, M3.out.fr, M3.out.fra.trans (frame_grown Hg4.out (F := fun k => F k ∨ w.heap.size ≤ k) (fun k hk => by injection hk with hk; subst hk; exact .inl H.out.fM)) (fun _ _ h => h)⟩)
      have d8 : w4.cell? ⟨g, 8, none⟩ = some (.slice (some ⟨gr, off, none⟩) 16 cap2) := HS4.out.2.1
      have z8 := M4.out.tab.frozen 8
      clear c7 c8 hc0 HS4 Hm4 Hg4
      go_wp2_with fail
      go_meet
      case rel =>
        have hgs := grown_set w4 g 8 (.slice (cutA (some ⟨gr, off, none⟩) cap2 1 1) 15 (cap2 - 1))
        have hlen : (p0 :: rest).length - 1 = rest.length := by simp
        have hrow : RowAtS w4 base 40 1 (.slice (cutA (some ⟨gr, off, none⟩) cap2 1 1) rest.length (cap2 - 1)) rest.length (rest.map ipV) := by
          have := M4.out.row.from_ (l := 1) (by simp)
          rw [hlen] at this
          exact this
        have M5 : LMid w (w4.setCell ⟨g, 8, none⟩ (.slice (cutA (some ⟨gr, off, none⟩) cap2 1 1) 15 (cap2 - 1))) base g mac ip rest m (.slice (cutA (some ⟨gr, off, none⟩) cap2 1 1) rest.length (cap2 - 1)) gM (updU f p0.1 none) F x ⟨a0, a1, a2, a3, a4, a5⟩ := by
          have hlx := fun k (hk : F k) => (H.out.flt k hk).2
          refine ⟨by have := M4.out.tab.set_ 8 (.slice (cutA (some ⟨gr, off, none⟩) cap2 1 1) 15 (cap2 - 1)); rw [Hr0.out]; exact this, hrow.kept hgs (fun k hk e => ?_), M4.out.map.grownCells M4.out.tab hgs, M4.out.bx.grown hgs (fun e => by injection e with e; have := hlx _ H.out.fg; omega), M4.out.bm.grown hgs (fun e => by injection e with e; have := hlx _ H.out.fg; omega), fun k hk => M4.out.fr k ?_, M4.out.fra.trans (frame_grown hgs (F := fun k => F k ∨ w.heap.size ≤ k) (fun k hk => by injection hk with hk; subst hk; exact .inl H.out.fg)) (fun _ _ h => h)⟩
          · injection e with e
            subst e
            exact hrow.ne M4.out.tab (by decide) hk
          · unfold cutA at hk
            split at hk <;> exact hk
        exact ⟨_, _, _, rest, Hpp.out.symm, M5, L3.out.dropped⟩
    · have hqb : ((l1.length : Int) == 16) = false := by simp; omega
      have Hpp := hid (show (if l1.length = 16 then l1.drop 1 else l1) = l1 from if_neg hq)
      clear hq
      go_wp2_with fail
      go_meet
      case rel => exact ⟨_, _, _, l1, Hpp.out.symm, M3.out, L3.out⟩
  case rest =>
  obtain ⟨A5, cap5, f5, l2, hl2, hM5, hL5⟩ := hcut
  have Hp2 := hid (show pLearn l x ⟨a0, a1, a2, a3, a4, a5⟩ = l2 ++ [(x, ⟨a0, a1, a2, a3, a4, a5⟩)] by rw [Hp.out, hl2])
  have Hl2 := hid (show l2.length ≤ 15 by rw [hl2]; have := Hlen.out; split <;> simp <;> omega)
  have M5 := hid hM5
  have L5 := hid hL5
  clear hl2 hM5 hL5 Hp Hlen M3 L3 c8
  generalize wc = w5 at *
  have c8 : w5.cell? ⟨g, 8, none⟩ = some (.slice A5 l2.length cap5) := M5.out.tab.cell 8
  have cx : w5.cell? ⟨w.heap.size, 0, none⟩ = some (.int .u32 (x : Int)) := M5.out.bx.cell 0
  go_step
  go_upto_region 6 with fail
  have Hsz5 := hid (show w.heap.size + 2 ≤ w5.heap.size by have := M5.out.bm.lt; omega)
  have HLIT := hid (below_alloc w5 (.cells #[.int .u32 (x : Int)] 40))
  go_cut [] from 43 to 53 (fun wx => ∃ A c, LMid w wx base g mac ip (l2 ++ [(x, ⟨a0, a1, a2, a3, a4, a5⟩)]) m (.slice A (l2.length + 1) c) gM f5 F x ⟨a0, a1, a2, a3, a4, a5⟩)
  case first =>
    have c8l := cell_below HLIT.out c8
    have cxl := cell_below HLIT.out cx
    go_region_law (first
      | (refine step_app_atS _ (by rfl) _ _ 52 (by rfl) base 40 (.int .u32 0) 1 4 u32ok (.slice A5 l2.length cap5) l2.length (l2.map ipV) (by rfl) (by first | exact M5.out.row.keep HLIT.out | exact M5.out.row.keep ((below_alloc w5 _).drew) | exact M5.out.row.keep ((below_drew w5).alloc (Nat.le_refl _) _)) (.slice (some ⟨w5.heap.size, 0, none⟩) 1 1) 1 [.int .u32 (x : Int)] (by rfl) (by first | exact rowS_lit 1 #[.int .u32 (x : Int)] 1 _ rfl rfl (by simp [maxLen]) | exact (rowS_lit 1 #[.int .u32 (x : Int)] 1 _ rfl rfl (by simp [maxLen])).drew) (by simp [Value.oneCell']) (by decide) (by have := Hl2.out; omega) (by have := Hl2.out; simp only [maxLen]; omega) (by have := (H.out.flt _ H.out.fg); have := M5.out.fra.size; simp; omega) ?_; intro v6 w6 hr6 hg6 hv6; obtain ⟨A6, cap6, rfl⟩ := hr6.slice; have hwy : Below w5.heap.size w5 _ := (by first | exact (below_alloc w5 (.cells #[.int .u32 (x : Int)] 40)).drew | exact below_alloc w5 (.cells #[.int .u32 (x : Int)] 40) | exact (below_drew w5).alloc (Nat.le_refl _) _); have HM7 := hid (M5.out.push (l' := l2 ++ [(x, ⟨a0, a1, a2, a3, a4, a5⟩)]) (v' := .slice A6 (l2.length + 1) cap6) (fun k hk => (H.out.flt k hk).2) H.out.fg Hsz5.out hwy hg6 (by rw [List.length_append, List.map_append]; exact hr6) hv6); have q6 := M5.out.grew (fun k hk => (H.out.flt k hk).2) hwy hg6; have HS6 := hid (show w6.cell? ⟨g, 8, none⟩ = some (.slice A5 l2.length cap5) ∧ w6.cell? ⟨w.heap.size, 0, none⟩ = some (.int .u32 (x : Int)) from ⟨q6.1.cell 8, q6.2.2.1.cell 0⟩); have e8 := HS6.out.1; have z8 := q6.1.frozen 8; clear hr6 hg6 hv6 hwy q6)
      | fail)
    all_goals
      go_wp2_with fail
      go_meet
      case rel => exact ⟨_, _, HM7.out⟩
  case rest =>
  obtain ⟨A7, cap7, hM7⟩ := hcut
  have M7 := hid hM7
  clear hM7 c8 cx HLIT
  generalize wc = w7 at *
  have c7 : w7.cell? ⟨g, 7, none⟩ = some (.map (some gM)) := M7.out.tab.cell 7
  have cx : w7.cell? ⟨w.heap.size, 0, none⟩ = some (.int .u32 (x : Int)) := M7.out.bx.cell 0
  go_step
  go_upto_region 7 with fail
  obtain ⟨om, hom⟩ := L5.out.was
  have Hom := hid hom
  have hlk0 : ∀ wy, Below w7.heap.size w7 wy → (Instr.lookup 68 (.map (some gM)) (.int .u32 (x : Int)) true).run Try.prog wy = .ok (.tuple #[(om.getD .zero).val, .bool om.isSome]) wy := fun wy hb => by
    have := (M7.out.map.keep hb).lookOk Try.underlying40 Try.underlying68 (maczero wy) x hx
    rw [hom] at this
    rw [this]
    cases om <;> rfl
  obtain ⟨⟨d0, d1, d2, d3, d4, d5⟩, hd⟩ : ∃ d, om.getD .zero = d := ⟨_, rfl⟩
  obtain ⟨bo, hbo⟩ : ∃ b, om.isSome = b := ⟨_, rfl⟩
  rw [hd, hbo] at hlk0
  dsimp only [Mac.val, Mac.cells] at hlk0
  have HLK := hid hlk0
  have Hd := hid hd
  have Hbo := hid hbo
  clear hlk0 hd hbo hom
  go_cut [6, 7] from 53 to 62 (fun s6 s7 wx => ∃ gk, s6 = .pointer (some ⟨gk, 0, none⟩) ∧ s7 = .bool bo ∧ Below w7.heap.size w7 wx ∧ Blk wx gk 23 [.int .u8 (d0.toNat : Int), .int .u8 (d1.toNat : Int), .int .u8 (d2.toNat : Int), .int .u8 (d3.toNat : Int), .int .u8 (d4.toNat : Int), .int .u8 (d5.toNat : Int)])
  case first =>
    have hz1 := below_alloc w7 (.cells #[.int .u8 0, .int .u8 0, .int .u8 0, .int .u8 0, .int .u8 0, .int .u8 0] 23)
    go_region_held3 (fun wy => wy.cell? ⟨g, 7, none⟩ = some (.map (some gM)) ∧ wy.cell? ⟨w.heap.size, 0, none⟩ = some (.int .u32 (x : Int)) ∧ (Instr.lookup 68 (.map (some gM)) (.int .u32 (x : Int)) true).run Try.prog wy = .ok (.tuple #[.agg #[.int .u8 (d0.toNat : Int), .int .u8 (d1.toNat : Int), .int .u8 (d2.toNat : Int), .int .u8 (d3.toNat : Int), .int .u8 (d4.toNat : Int), .int .u8 (d5.toNat : Int)], .bool bo]) wy) (first | exact ⟨c7, cx, HLK.out _ (Below.refl _ _)⟩ | exact ⟨cell_below (below_drew _) c7, cell_below (below_drew _) cx, HLK.out _ (below_drew _)⟩ | (refine ⟨cell_below (by first | exact (below_drew w7).alloc (Nat.le_refl _) _ | exact (below_alloc w7 _).drew) c7, cell_below (by first | exact (below_drew w7).alloc (Nat.le_refl _) _ | exact (below_alloc w7 _).drew) cx, HLK.out _ (by first | exact (below_drew w7).alloc (Nat.le_refl _) _ | exact (below_alloc w7 _).drew)⟩)) (fail)
    all_goals
      go_wp2_with fail
      go_meet
      case rel => exact ⟨_, rfl, rfl, (below_alloc w7 _).drew, (Blk.new w7 23 #[.int .u8 (d0.toNat : Int), .int .u8 (d1.toNat : Int), .int .u8 (d2.toNat : Int), .int .u8 (d3.toNat : Int), .int .u8 (d4.toNat : Int), .int .u8 (d5.toNat : Int)]).drew⟩
  case rest =>
  obtain ⟨gk, rfl, rfl, hb8, hk8⟩ := hcut
  have Hb8 := hid hb8
  have hbm8 := (M7.out.bm.keep hb8)
  have hbx8 := (M7.out.bx.keep hb8)
  have hmp8 := (M7.out.map.keep hb8)
  have M8 := hid (show LMid w wc base g mac ip (l2 ++ [(x, ⟨a0, a1, a2, a3, a4, a5⟩)]) m (.slice A7 (l2.length + 1) cap7) gM f5 F x ⟨a0, a1, a2, a3, a4, a5⟩ from
    ⟨M7.out.tab.keep hb8, M7.out.row.keep hb8, hmp8, hbx8, hbm8, M7.out.fr, M7.out.fra.trans (Below.frameF hb8 _) (fun _ _ q => q)⟩)
  have k0 := hk8.cell 0
  have k1 := hk8.cell 1
  have k2 := hk8.cell 2
  have k3 := hk8.cell 3
  have k4 := hk8.cell 4
  have k5 := hk8.cell 5
  have n0 : wc.cell? ⟨w.heap.size + 1, 0, none⟩ = some (.int .u8 (a0.toNat : Int)) := hbm8.cell 0
  have n1 : wc.cell? ⟨w.heap.size + 1, 1, none⟩ = some (.int .u8 (a1.toNat : Int)) := hbm8.cell 1
  have n2 : wc.cell? ⟨w.heap.size + 1, 2, none⟩ = some (.int .u8 (a2.toNat : Int)) := hbm8.cell 2
  have n3 : wc.cell? ⟨w.heap.size + 1, 3, none⟩ = some (.int .u8 (a3.toNat : Int)) := hbm8.cell 3
  have n4 : wc.cell? ⟨w.heap.size + 1, 4, none⟩ = some (.int .u8 (a4.toNat : Int)) := hbm8.cell 4
  have n5 : wc.cell? ⟨w.heap.size + 1, 5, none⟩ = some (.int .u8 (a5.toNat : Int)) := hbm8.cell 5
  have cx := hbx8.cell 0
  have c7 : wc.cell? ⟨g, 7, none⟩ = some (.map (some gM)) := M8.out.tab.cell 7
  have hfin : ∀ (w9 : World) (f9 : Nat → Option Value) (m9 : Nat), m9 ≤ m + 1 → LMid w w9 base g mac ip (l2 ++ [(x, ⟨a0, a1, a2, a3, a4, a5⟩)]) m9 (.slice A7 (l2.length + 1) cap7) gM f9 F x ⟨a0, a1, a2, a3, a4, a5⟩ → (∀ k, f9 k = if k = x then some (Mac.mk a0 a1 a2 a3 a4 a5).val else f5 k) →
      ∃ F', PeersInv w9 base g mac ip (pLearn l x ⟨a0, a1, a2, a3, a4, a5⟩) (m + 1) F' ∧ Frame F w w9 ∧ ∀ k, F' k → F k ∨ w.heap.size ≤ k := by
    intro w9 f9 m9 hm9 hM hf9
    obtain ⟨q1, q2, q3, q4⟩ := L5.out.last hf9 hx Hx0.out
    rw [Hp2.out]
    have hsz := hM.fra.size
    refine ⟨fun k => k = g ∨ k = gM ∨ (Value.slice A7 (l2.length + 1) cap7).ownBlock = some k, ⟨.slice A7 (l2.length + 1) cap7, gM, f9, hM.tab, ?_, hM.map.mono hm9, q1, q2, q3, ?_, q4, .inl rfl, .inr (.inl rfl), fun k hk => .inr (.inr hk), fun k hk => ?_⟩, hM.fra.weaken (fun i hi q => ?_), fun k hk => ?_⟩
    · exact hM.row
    · have := Hl2.out; simp; omega
    · rcases hk with rfl | rfl | hk
      · have := H.out.flt _ H.out.fg; omega
      · have := H.out.flt _ H.out.fM; omega
      · exact hM.row.lt hk
    · rcases q with q | q
      · exact q
      · omega
    · rcases hk with rfl | rfl | hk
      · exact .inl H.out.fg
      · exact .inl H.out.fM
      · rcases hM.fr k hk with q | q
        · exact .inl q
        · exact .inr (by omega)
  have HF := hid hfin
  clear hb8 hk8 hbm8 hbx8 hfin
  have e1 := fun wx => run_mac_eq ⟨d0, d1, d2, d3, d4, d5⟩ ⟨a0, a1, a2, a3, a4, a5⟩ wx
  dsimp only [Mac.val, Mac.cells] at e1
  go_step
  by_cases hsame : om = some ⟨a0, a1, a2, a3, a4, a5⟩
  · subst hsame
    have h1 := Hd.out
    have h2 := Hbo.out
    simp only [Option.getD_some, Mac.mk.injEq] at h1
    obtain ⟨rfl, rfl, rfl, rfl, rfl, rfl⟩ := h1
    obtain rfl : bo = true := by rw [← h2]; rfl
    have e2 : ∀ wx, _ = Result.ok true wx := fun wx => (e1 wx).trans (by rw [decide_eq_true rfl])
    clear e1 h2
    go_wp2_with fail
    go_end0
    refine ⟨⟨_, rfl⟩, HF.out _ f5 m (Nat.le_succ m) M8.out fun k => ?_⟩
    by_cases e : k = x
    · subst e; rw [if_pos rfl, Hom.out]; rfl
    · rw [if_neg e]
  · have hor : bo = false ∨ bo = true ∧ Mac.mk d0 d1 d2 d3 d4 d5 ≠ Mac.mk a0 a1 a2 a3 a4 a5 := by
      have h1 := Hd.out
      have h2 := Hbo.out
      cases om with
      | none => exact .inl (by rw [← h2]; rfl)
      | some q =>
        simp only [Option.getD_some] at h1
        refine .inr ⟨by rw [← h2]; rfl, fun e => hsame ?_⟩
        rw [h1, e]
    obtain ⟨w9, hrun, hm9, hg9⟩ := M8.out.map.drew.put Try.underlying40 Try.underlying68 (by simp only [maxLen]; omega) x hx (.agg #[.int .u8 (a0.toNat : Int), .int .u8 (a1.toNat : Int), .int .u8 (a2.toNat : Int), .int .u8 (a3.toNat : Int), .int .u8 (a4.toNat : Int), .int .u8 (a5.toNat : Int)])
    have Hm9 := hid hm9
    have Hg9 := hid (grown_trans (grown_drew wc _) hg9)
    have hlast : ∀ k, updU f5 x (some (Mac.mk a0 a1 a2 a3 a4 a5).val) k = if k = x then some (Mac.mk a0 a1 a2 a3 a4 a5).val else f5 k := fun k => rfl
    have M9 := hid (show LMid w w9 base g mac ip (l2 ++ [(x, ⟨a0, a1, a2, a3, a4, a5⟩)]) (m + 1) (.slice A7 (l2.length + 1) cap7) gM (updU f5 x (some (Mac.mk a0 a1 a2 a3 a4 a5).val)) F x ⟨a0, a1, a2, a3, a4, a5⟩ from by
      refine ⟨M8.out.tab.mapWrite M8.out.map Hg9.out, M8.out.row.kept Hg9.out (fun k hk e => ?_), Hm9.out, M8.out.bx.mapWrite M8.out.map Hg9.out, M8.out.bm.mapWrite M8.out.map Hg9.out, M8.out.fr, M8.out.fra.trans (frame_grown Hg9.out (F := fun k => F k ∨ w.heap.size ≤ k) (fun k hk => by injection hk with hk; subst hk; exact .inl H.out.fM)) (fun _ _ h => h)⟩
      injection e with e
      subst e
      obtain ⟨cur, hcur⟩ := M8.out.row.blk hk
      exact M8.out.map.ne hcur rfl)
    have Hl9 := hid hlast
    clear hm9 hg9 hsame hlast
    rcases hor with rfl | ⟨rfl, hne⟩
    · go_wp2_with fail
      go_region_law (fail)
      all_goals
        go_wp2_with fail
        go_end0
        exact ⟨⟨_, rfl⟩, HF.out _ _ (m + 1) (Nat.le_refl _) M9.out Hl9.out⟩
    · have e2 : ∀ wx, _ = Result.ok false wx := fun wx => (e1 wx).trans (by rw [decide_eq_false hne])
      clear e1 hne
      go_wp2_with fail
      go_region_law (fail)
      all_goals
        go_wp2_with fail
        go_end0
        exact ⟨⟨_, rfl⟩, HF.out _ _ (m + 1) (Nat.le_refl _) M9.out Hl9.out⟩
end Go.Proofs.Ytefpfjdfkecjkaa
