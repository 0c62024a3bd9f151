/- The walk of NumSums. -/
import Derived.Test.YtgmeogcgcabjoaaNumReadsW
namespace Go.Proofs.Ytgmeogcgcabjoaa
open Go Go.RowKit

theorem slinfo : (Try.prog.info? 24).map (fun i => (i.zero, i.size, i.bytes)) = some (some (.slice none 0 0), 1, 24) := by kernel_rfl
theorem slok : ElemOk Try.prog 22 24 (.slice none 0 0) 1 24 := by
  obtain ⟨i, hi, hz, hs, hb⟩ := info_parts slinfo
  exact ⟨Try.underlying22, ⟨i, hi, hz, hs, hb⟩, rfl, by decide, by decide⟩

/-- rows that were lent, each in a block of its own, none of them the block 'av' -/
def Lent (w : World) (vs : List Value) (rows : List (List UInt8)) (av : Option Nat) : Prop :=
  vs.length = rows.length ∧ ∀ (j : Nat) v r, vs[j]? = some v → rows[j]? = some r → ∃ g, v = .slice (some ⟨g, 0, none⟩) r.length (r.length + 9) ∧ Blk w g 5 (marks9 r) ∧ some g ≠ av

theorem Lent.below {w w' : World} {vs : List Value} {rows : List (List UInt8)} {av : Option Nat} (h : Lent w vs rows av) (hb : Below w.heap.size w w') : Lent w' vs rows av :=
  ⟨h.1, fun j v r h1 h2 => by obtain ⟨g, e, hg, hn⟩ := h.2 j v r h1 h2; exact ⟨g, e, hg.keep hb, hn⟩⟩
theorem Lent.grown {w w' : World} {vs : List Value} {rows : List (List UInt8)} {av av' : Option Nat} (h : Lent w vs rows av) (hg : w.grownBy w' av) (ha : av' = av ∨ av' = some w.heap.size) : Lent w' vs rows av' :=
  ⟨h.1, fun j v r h1 h2 => by
    obtain ⟨g, e, hg', hn⟩ := h.2 j v r h1 h2
    refine ⟨g, e, hg'.grown hg hn, ?_⟩
    rcases ha with rfl | rfl
    · exact hn
    · intro e2
      have := hg'.lt
      injection e2 with e2
      omega⟩
/-- a store into a row of another element type does not touch them -/
theorem Lent.other {w w' : World} {vs : List Value} {rows : List (List UInt8)} {av : Option Nat} (h : Lent w vs rows av) {base size n : Nat} {u : Value} {us : List Value} (ho : w.ownsRow base 24 size u n us) (hg : w.grownBy w' u.ownBlock) : Lent w' vs rows av :=
  ⟨h.1, fun j v r h1 h2 => by
    obtain ⟨g, e, hg', hn⟩ := h.2 j v r h1 h2
    refine ⟨g, e, hg'.grown hg ?_, hn⟩
    rcases ho.2 with ⟨rfl, _⟩ | ⟨g2, cap, cur, rfl, _, hh, _⟩
    · simp [Value.ownBlock]
    · intro e2
      simp [Value.ownBlock] at e2
      subst e2
      unfold Blk at hg'
      rw [hg'] at hh
      injection hh with hh
      injection hh with _ ht
      exact absurd ht (by decide)⟩
theorem Lent.snoc {w : World} {vs : List Value} {rows : List (List UInt8)} {av : Option Nat} (h : Lent w vs rows av) {g : Nat} {r : List UInt8} (hg : Blk w g 5 (marks9 r)) (hn : some g ≠ av) :
    Lent w (vs ++ [.slice (some ⟨g, 0, none⟩) r.length (r.length + 9)]) (rows ++ [r]) av := by
  refine ⟨by simp [h.1], fun j v q h1 h2 => ?_⟩
  rcases Nat.lt_trichotomy j vs.length with hj | hj | hj
  · rw [List.getElem?_append_left hj] at h1
    rw [List.getElem?_append_left (by rw [← h.1]; exact hj)] at h2
    exact h.2 j v q h1 h2
  · subst hj
    rw [List.getElem?_append_right (Nat.le_refl _)] at h1
    rw [h.1, List.getElem?_append_right (Nat.le_refl _)] at h2
    simp at h1 h2
    subst h1; subst h2
    exact ⟨g, rfl, hg, hn⟩
  · rw [List.getElem?_eq_none (by simp; omega)] at h1
    cases h1
theorem Lent.rows {w : World} {v : Value} {vs : List Value} {rows : List (List UInt8)} {av : Option Nat} (h : Lent w vs rows av) (hl : ∀ r ∈ rows, r.length ≤ 16384) {base : Nat} {e : TypeId} (ho : w.ownsRow base e 1 v vs.length vs) : Rows8 w v rows := by
  refine ⟨vs, ?_, fun i x r h1 h2 => ?_⟩
  · rw [← h.1]; exact RowN.of_own ho
  · obtain ⟨g, rfl, hg, _⟩ := h.2 i x r h1 h2
    exact marks9_bs hg (by have := hl r (List.mem_of_getElem? h2); omega)

theorem ownBs_grown {w w' : World} {base b2 size n : Nat} {v u : Value} {bs : List UInt8} {us : List Value} (h : OwnBs w base 5 v bs) (ho : w.ownsRow b2 24 size u n us) (hg : w.grownBy w' u.ownBlock) : OwnBs w' base 5 v bs := by
  refine World.ownsRow.kept h hg ?_
  rcases hv : v.ownBlock with _ | g1
  · exact .inl rfl
  · right
    intro e
    rcases h.2 with ⟨rfl, _⟩ | ⟨g, cap, cur, rfl, _, hh, _⟩
    · simp [Value.ownBlock] at hv
    · rcases ho.2 with ⟨rfl, _⟩ | ⟨g2, cap2, cur2, rfl, _, hh2, _⟩
      · simp [Value.ownBlock] at e
      · simp [Value.ownBlock] at hv e
        subst hv; subst e
        rw [hh] at hh2
        injection hh2 with hh2
        injection hh2 with _ ht
        exact absurd ht (by decide)

theorem flatten_le (l : List (List UInt8)) (m : Nat) (h : ∀ r ∈ l, r.length ≤ m) : l.flatten.length ≤ m * l.length := by
  induction l with
  | nil => simp
  | cons a l ih =>
    have h1 := h a (by simp)
    have h2 := ih (fun r hr => h r (by simp [hr]))
    rw [List.flatten_cons, List.length_append, List.length_cons, Nat.mul_add, Nat.mul_one]
    omega
theorem own24_grown {w w' : World} {base b2 size n : Nat} {v u : Value} {bs : List UInt8} {us : List Value} (h : w.ownsRow b2 24 size u n us) (ho : OwnBs w base 5 v bs) (hg : w.grownBy w' v.ownBlock) : w'.ownsRow b2 24 size u n us := by
  refine World.ownsRow.kept h hg ?_
  rcases hv : u.ownBlock with _ | g1
  · exact .inl rfl
  · right
    intro e
    rcases h.2 with ⟨rfl, _⟩ | ⟨g, cap, cur, rfl, _, hh, _⟩
    · simp [Value.ownBlock] at hv
    · rcases ho.2 with ⟨rfl, _⟩ | ⟨g2, cap2, cur2, rfl, _, hh2, _⟩
      · simp [Value.ownBlock] at e
      · simp [Value.ownBlock] at hv e
        subst hv; subst e
        rw [hh] at hh2
        injection hh2 with hh2
        injection hh2 with _ ht
        exact absurd ht (by decide)

theorem one_cells (x : Value) (h : x.oneCell' = true) : ∀ u ∈ [x], u.oneCell' = true := by
  intro u hu; rw [List.mem_singleton] at hu; rw [hu]; exact h

theorem numSums_walk (v : Value) (rows : List (List UInt8)) (w : World) (h : Rows8 w v rows) :
    Calls Try.prog 3 #[v] w fun e w' => e = .returned (.bool true) ∧ Below w.heap.size w w' := by
  obtain ⟨A, cap, rfl, k1, k2, k3⟩ := h.cells
  have K3 := hid k3; clear h k3
  go_enter Try.func3, Try.ntmps3
  go_wp2_with ((go_at_call 9; refine (known_any _).mono ?_; rintro e w' ⟨rfl, hb0⟩))
  go_loopw [3, 4, 5] (fun al mi i wr => ∃ k : Nat, k ≤ rows.length ∧ k ≤ 100 ∧ i = .int .i64 k ∧ Hid (OwnBs wr w.heap.size 5 al (rows.take k).flatten) ∧
      Hid (∃ vs, wr.ownsRow w.heap.size 24 1 mi vs.length vs ∧ Lent wr vs (rows.take k) al.ownBlock) ∧ Hid (∀ r ∈ rows.take k, r.length ≤ 16384) ∧ Below w.heap.size w wr)
    (fun _ _ i _ => rows.length - (intOf i).toNat)
  case atStart => exact ⟨0, Nat.zero_le _, by omega, rfl, OwnBs.nil _ _ _, ⟨[], World.ownsRow_nil _ _ _ _, rfl, by simp⟩, by intro r hr; simp at hr, hb0⟩
  case round =>
    obtain ⟨k, hk, hk100, rfl, Hal, Hmi, Hsm, hbw⟩ := hrel
    clear hb0
    by_cases hgo : k < rows.length ∧ k < 100
    · obtain ⟨hlt, hl100⟩ := hgo
      obtain ⟨b, off, x, rfl, hcell, hbs⟩ := K3.out k hlt
      have Hbs := hid hbs
      obtain ⟨A1, cap1, rfl, m1, m2, _⟩ := hbs.cells
      clear hbs
      have hc1 := cell_below hbw hcell
      have hd : decide ((k : Int) < (rows.length : Int)) = true := by simp; omega
      have hd2 : decide ((k : Int) < 100) = true := by simp; omega
      by_cases hbig : 16384 < rows[k].length
      · go_wp2
        go_ret
        exact ⟨rfl, hbw⟩
      · have Hfl := hid (flatten_snoc rows k hlt)
        have hfl : (rows.take k).flatten.length ≤ 16384 * 100 := by
          have h1 := flatten_le (rows.take k) 16384 Hsm.out
          have h2 : (rows.take k).length ≤ 100 := by simp; omega
          omega
        have Hsm2 := hid (show ∀ r ∈ rows.take (k + 1), r.length ≤ 16384 by
          intro r hr
          rw [take_snoc _ _ hlt, List.mem_append, List.mem_singleton] at hr
          rcases hr with hr | rfl
          · exact Hsm.out r hr
          · omega)
        have Htk := hid (take_snoc rows k hlt)
        generalize (rows.take k).flatten = F at *
        obtain ⟨vs, hom, hle⟩ := Hmi.out
        have hvl : vs.length ≤ 100 := by rw [hle.1]; simp; omega
        have Hom := hid hom; have Hle := hid hle
        clear hom hle Hmi
        go_wp2_with (first
          | ((with_reducible show wpList _ _ _ (Oper.mk (some 32) _ _ _ _ _ :: _) _ _); refine wpList_app8 _ rfl (.tmp 27) (.tmp 31) 24 rfl w.heap.size 5 u8ok _ _ rfl Hal.out _ rows[k] rfl (Hbs.out.below hbw) (by omega) hbw.size ?_; intro al1 w1 hal1 hbl1 hg1 hat1; have Hle1 := hid (Hle.out.grown hg1 hat1); have Hom1 := hid (own24_grown Hom.out Hal.out hg1); have Hal1 := hid hal1; have Hg1 := hid (hbw.trans hbl1); have hc2 := cell_below Hg1.out hcell; clear hal1 hg1 hat1 hbl1)
          | ((go_at_call 10; refine (lend_any _ rows[k] _ (Hbs.out.below Hg1.out) (by omega)).mono ?_; rintro e w' ⟨g, rfl, hg, hblk, hb1⟩); have Hle2 := hid ((Hle1.out.below hb1).snoc hblk (by intro e; have := (World.ownsRow.lt Hal1.out _ e.symm).2; omega)); have Hom2 := hid (own_below Hom1.out hb1); have Hal2 := hid (Hal1.out.below hb1); have Hb2 := hid (Hg1.out.trans (hb1.mono Hg1.out.size)); clear hg hblk hb1)
          | ((with_reducible show wpList _ _ _ (Oper.mk (some 40) _ _ _ _ _ :: _) _ _); refine wpList_app _ rfl (.tmp 33) (.tmp 39) 22 rfl w.heap.size 24 _ 1 24 slok _ _ _ rfl (own_below Hom2.out (below_alloc _ _)) _ 1 [.slice (some ⟨g, 0, none⟩) rows[k].length (rows[k].length + 9)] rfl (row_litm #[.slice (some ⟨g, 0, none⟩) rows[k].length (rows[k].length + 9)] _ 1 _ rfl rfl (by decide) rfl) (one_cells _ rfl) (by omega) (by simp only [maxLen]; omega) (by simp; have := Hb2.out.size; omega) ?_; intro mi1 w5 hmi1 hg5 hat5; have Hle3 := hid ((Hle2.out.below (below_alloc _ _)).other (own_below Hom2.out (below_alloc _ _)) hg5); have Hal3 := hid (ownBs_grown (Hal2.out.alloc _) (own_below Hom2.out (below_alloc _ _)) hg5); have Hb3 := hid ((Hb2.out.alloc Hb2.out.size _).trans (grown_below (own_below Hom2.out (below_alloc _ _)) (by simp; have := Hb2.out.size; omega) hg5)); have Hmi3 := hid hmi1; clear hmi1 hg5 hat5))
        go_roundw
        case rel =>
          refine ⟨k + 1, by omega, by omega, by go_num, by rw [Hfl.out]; exact Hal3.out, ⟨vs ++ [.slice (some ⟨g, 0, none⟩) rows[k].length (rows[k].length + 9)], ?_, by rw [Htk.out]; exact Hle3.out⟩, Hsm2.out, Hb3.out⟩
          rw [List.length_append]
          exact Hmi3.out
        case measure => simp [intOf]; omega
    · obtain ⟨vs, hom, hle⟩ := Hmi.out
      have Hom := hid hom; have Hle := hid hle
      clear hom hle Hmi
      have hlen : (rows.take k).length = k := by simp; omega
      have hvl : vs.length = k := by rw [Hle.out.1, hlen]
      have Hrows := hid (Hle.out.rows Hsm.out Hom.out)
      have hfl : (rows.take k).flatten.length ≤ 1099511627776 := by
        have h1 := flatten_le (rows.take k) 16384 Hsm.out
        omega
      have Hal1 := hid Hal.out.bs
      have hgo' : (¬ k < rows.length) ∨ (k < rows.length ∧ (100 : Int) ≤ (k : Int)) := by omega
      have hown := Hom.out
      rw [hvl] at hown
      obtain ⟨A4, cap4, rfl, m1, m2, m3, m4⟩ := (RowN.of_own hown).cells
      have M4 := hid m4
      clear hgo m4 hown
      rcases hgo' with hd | ⟨hd, hd2⟩
      all_goals
        go_wp2_with (first
          | ((go_at_call 11; refine (crc_any _ _ _ Hrows.out).mono ?_; rintro e w' ⟨rfl, rfl⟩))
          | ((go_at_call 12; refine (inet_any _ _ _ Hrows.out hfl).mono ?_; rintro e w' ⟨rfl, rfl⟩)))
        go_loopw [8] (fun i w2 => ∃ j m : Nat, j ≤ k ∧ i = .int .i64 j ∧ w2 = wr.drewN m) (fun i _ => k - (intOf i).toNat)
        case atStart => exact ⟨0, 0, Nat.zero_le _, rfl, rfl⟩
        case round =>
          obtain ⟨j, m, hj, rfl, rfl⟩ := hrel
          by_cases hjt : j < k
          · have hjr : j < rows.length := by omega
            obtain ⟨b4, off4, rfl, hc4⟩ := M4.out j (by omega)
            obtain ⟨g, hvj, hblk, _⟩ := Hle.out.2 j vs[j] rows[j] (by simp) (by rw [List.getElem?_take, if_pos hjt]; simp)
            rw [hvj] at hc4
            obtain ⟨b0, off0, x0, rfl, hc0, hbs0⟩ := K3.out j hjr
            have hc00 := cell_below hbw hc0
            have Hbs0 := hid (hbs0.below hbw)
            have Hblk := hid hblk
            obtain ⟨A1, cap1, rfl, _, _, _⟩ := hbs0.cells
            have hr16 : rows[j].length ≤ 16384 := Hsm.out _ (by rw [List.mem_take_iff_getElem]; exact ⟨j, by omega, rfl⟩)
            have q1 : (0 : Int) ≤ (j : Int) := by omega
            have q2 : (j : Int) < (k : Int) := by omega
            have q3 : (j : Int) < (rows.length : Int) := by omega
            clear hbs0 hblk hvj hc0
            go_wp2_with fail
            go_quiet ((go_at_call 13; exact quiet_add (kept_any g _ rows[j] _ (Hbs0.out.drewN _) (by omega) (Hblk.out.drewN _))))
            go_wp2_with fail
            go_roundw
            case rel => exact ⟨j + 1, m + nq, by omega, by go_num, rfl⟩
            case measure => simp [intOf]; omega
          · go_wp2_with (first
              | ((go_at_call 14; refine (rcrc_any _ _ _ (Hal1.out.drewN _)).mono ?_; rintro e w' ⟨rfl, rfl⟩))
              | ((go_at_call 15; refine (rinet_any _ _ _ (Hal1.out.drewN _) hfl).mono ?_; rintro e w' ⟨rfl, rfl⟩)))
            go_ret
            exact ⟨rfl, below_drewN hbw _⟩
end Go.Proofs.Ytgmeogcgcabjoaa
