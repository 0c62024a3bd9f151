/- Contract of the document's drop. -/
import Derived.Test.YtbjiicnagfeciaaRPtB
import Derived.LaidEqlPtr
namespace Go.Proofs.Ytbjiicnagfeciaa
open Go Go.RowKit
attribute [local go_sem ↓] Go.wp_at_zero Go.wp_at_succ
set_option maxRecDepth 100000

theorem rptrinfo : (Try.prog.info? 102).map (fun i => (i.zero, i.size, i.bytes)) = some (some (.pointer none), 1, 8) := by kernel_rfl
theorem rptrok : ElemOk Try.prog 64 102 (.pointer none) 1 8 := by
  obtain ⟨i, hi, hz, hs, hb⟩ := info_parts rptrinfo
  exact ⟨Try.underlying64, ⟨i, hi, hz, hs, hb⟩, rfl, by decide, by decide⟩
theorem rwaitinfo : (Try.prog.info? 101).map (·.size) = some 11 := by kernel_rfl
theorem rwaitinfo2 : ∃ j, Try.prog.info? 101 = some j ∧ j.size ≠ 0 := by
  have h := rwaitinfo
  cases e : Try.prog.info? 101 with
  | none => rw [e] at h; simp at h
  | some j => rw [e] at h; simp at h; exact ⟨j, rfl, by omega⟩
theorem rptr_same (a : Nat) (w : World) : (binOp .neq 102 (.pointer (some ⟨a, 0, none⟩)) (.pointer (some ⟨a, 0, none⟩))).run Try.prog w = .ok (.bool false) w := by
  obtain ⟨j, hj, _⟩ := rwaitinfo2
  have h : ∀ d : Nat, (Op.equalIn (d + 1) 102 (.pointer (some ⟨a, 0, none⟩)) (.pointer (some ⟨a, 0, none⟩))).run Try.prog w = .ok true w := fun d => by
    simp [Op.equalIn, run_underlying Try.underlying102, sizeOf, typeInfo, hj, run_sameAddr_same]
  simp only [binOp]
  simp [Op.equal, Op.maxDepth, h 9999]
theorem rptr_other {a b : Nat} {w : World} {ta tb : TypeId} {xa xb : List Value} (ha : Blk w a ta xa) (hb : Blk w b tb xb) (hne : a ≠ b) : (binOp .neq 102 (.pointer (some ⟨a, 0, none⟩)) (.pointer (some ⟨b, 0, none⟩))).run Try.prog w = .ok (.bool true) w := by
  obtain ⟨j, hj, hsz⟩ := rwaitinfo2
  have h : ∀ d : Nat, (Op.equalIn (d + 1) 102 (.pointer (some ⟨a, 0, none⟩)) (.pointer (some ⟨b, 0, none⟩))).run Try.prog w = .ok false w := fun d => by
    simp [Op.equalIn, run_underlying Try.underlying102, sizeOf, typeInfo, hj, hsz, run_sameAddr_other w (a := ⟨a, 0, none⟩) (b := ⟨b, 0, none⟩) (fun e => hne (by injection e)) ha hb]
  simp only [binOp]
  simp [Op.equal, Op.maxDepth, h 9999]
/-- all but the one in block gx -/
def rmv (L : List RIt) (gx : Nat) : List RIt := L.filter fun y => !decide (y.g = gx)
theorem rmv_snoc (L : List RIt) (gx kk : Nat) (h : kk < L.length) : rmv (L.take (kk + 1)) gx = rmv (L.take kk) gx ++ if L[kk].g = gx then [] else [L[kk]] := by
  unfold rmv
  rw [take_snoc L kk h, List.filter_append]
  congr 1
  by_cases e : L[kk].g = gx <;> simp [e]
theorem rmv_len (L : List RIt) (gx : Nat) : (rmv L gx).length ≤ L.length := List.length_filter_le _ _
set_option maxHeartbeats 4000000 in
theorem rdrop_at (base g : Nat) (clock : Int) (L : List RIt) (m : Nat) (vr : Value) (F : Nat → Prop) (gx : Nat) (hgx : ∃ x ∈ L, x.g = gx) (w : World) (h : RPtAt w base g clock L m vr F) :
    Calls Try.prog 45 #[.pointer (some ⟨g, 0, none⟩), .pointer (some ⟨gx, 0, none⟩)] w fun e w' => (∃ u, e = .returned u) ∧ ∃ vr' F', RPtAt w' base g clock (rmv L gx) m vr' F' ∧ Frame (fun k => k = g) w w' ∧ ∀ k, F' k → F k ∨ w.heap.size ≤ k := by
  have H := hid h
  have Hgx := hid hgx
  clear hgx
  obtain ⟨n, hn⟩ : ∃ n, L.length = n := ⟨_, rfl⟩
  have Hn := hid hn
  have hrow := h.row.rowN
  rw [hn] at hrow
  obtain ⟨_, B, capB, rfl, hcB1, hcB2, _⟩ := (show RowN w 1 vr n (L.map RIt.ptr) from hrow)
  have HR := hid hrow
  have hn4 : n ≤ 4 := by have := h.ok.len; simpa [hn] using this
  have hcB : capB ≤ 9223372036854775807 := by simp only [maxLen] at hcB2; omega
  clear h hrow hn hcB2
  go_enter Try.func45, Try.ntmps45
  go_wp2_with fail
  go_loopg [4, 5] n (fun gk s4 s5 wr => ∃ kk : Nat, kk ≤ n ∧ n - kk ≤ gk ∧ s5 = .int .i64 (kk : Int) ∧ Below w.heap.size w wr ∧ RowAtS wr w.heap.size 102 1 s4 (rmv (L.take kk) gx).length ((rmv (L.take kk) gx).map RIt.ptr))
  case atStart => exact ⟨0, Nat.zero_le _, by omega, rfl, Below.refl _ _, RowAtS.nil _ _ _ _⟩
  case round =>
    obtain ⟨kk, hkk, hgk, rfl, hbel, hrw⟩ := hrel
    have c1 : wr.cell? ⟨g, 1, none⟩ = some (.slice B n capB) := (H.out.keep hbel).tab.cell 1
    by_cases hkl : kk < n
    · have hkI : (kk : Int) < (n : Int) := by omega
      have hkL : kk < L.length := by rw [Hn.out]; exact hkl
      obtain ⟨gB, oB, rfl, hcell⟩ := rptr_at (HR.out.keep (fun p u hp => cell_below hbel hp)) Hn.out kk hkl
      have hsn := rmv_snoc L gx kk hkL
      have hxm : L[kk] ∈ L := List.getElem_mem hkL
      generalize L[kk] = x at hcell hsn hxm
      have hgy1 := ((H.out.it x hxm).keep hbel).blk
      obtain ⟨x2, hx2, hx2g⟩ := Hgx.out
      have hgx1 := ((H.out.it x2 hx2).keep hbel).blk
      rw [hx2g] at hgx1
      obtain ⟨rl, hrl⟩ : ∃ rl, rmv (L.take kk) gx = rl := ⟨_, rfl⟩
      have hrll : rl.length ≤ 4 := by rw [← hrl]; have := rmv_len (L.take kk) gx; simp at this; omega
      rw [hrl] at hrw hsn
      obtain ⟨_, D, capD, rfl, hcD1, hcD2, _⟩ := hrw.rowN
      have Hrw := hid hrw
      have Hbel := hid hbel
      obtain ⟨gy, hgy⟩ : ∃ gy, x.g = gy := ⟨_, rfl⟩
      rw [hgy] at hcell hsn hgy1
      have hj1 : IntKind.i64.wrap ((kk : Int) + 1) = ((kk + 1 : Nat) : Int) := by rw [IntWalk.i64_in _ (by omega)]; omega
      have Hxp := hid (show x.ptr = .pointer (some ⟨gy, 0, none⟩) by unfold RIt.ptr; rw [hgy]; rfl)
      have Hgg := hid (And.intro hgy1 hgx1)
      clear hrw hbel hrl hgy hcD2 hgy1 hgx1 hx2 hx2g hxm
      by_cases he : gy = gx
      · subst he
        rw [if_pos rfl, List.append_nil] at hsn
        have Hsn := hid hsn
        have hq := rptr_same gy
        clear hsn
        go_wp2_with fail
        go_roundg (n - (kk + 1))
        case measure => omega
        case rel => exact ⟨kk + 1, by omega, Nat.le_refl _, rfl, Hbel.out, by rw [Hsn.out]; exact Hrw.out⟩
      · rw [if_neg he] at hsn
        have Hsn := hid hsn
        have hal := below_alloc wr (.cells #[.pointer (some ⟨gy, 0, none⟩)] 102)
        have Hal := hid hal
        have Hrw2 := hid (Hrw.out.keep hal)
        have c1' := cell_below hal c1
        have hcell' := cell_below hal hcell
        have hwsz := Hbel.out.size
        have hq := rptr_other Hgg.out.1 Hgg.out.2 he
        clear hsn hal
        go_wp2_with (first
          | ((with_reducible show wpList _ _ _ (Oper.mk (some 33) _ _ _ _ _ :: _) _ _); refine wpList_app_atS rfl _ _ 64 rfl w.heap.size 102 (.pointer none) 1 8 rptrok _ rl.length (rl.map RIt.ptr) rfl Hrw2.out (.slice (some ⟨wr.heap.size, 0, none⟩) 1 1) 1 [.pointer (some ⟨gy, 0, none⟩)] rfl (rowS_lit 1 #[.pointer (some ⟨gy, 0, none⟩)] 1 _ rfl rfl (by simp [maxLen])) (by simp [Value.oneCell']) (by decide) (by omega) (by simp only [maxLen]; omega) (by simp; omega) ?_; intro v6 w6 hr6 hg6 hv6; have hb6 : Below w.heap.size w w6 := Below.grown (Hbel.out.trans (Hal.out.mono Hbel.out.size)) hg6 (Nat.le_trans Hbel.out.size Hal.out.size) (fun k hk => (Hrw2.out.lt hk).1); have Hr6 := hid hr6; have Hb6 := hid hb6; clear hr6 hg6 hv6 hb6)
          | fail)
        go_roundg (n - (kk + 1))
        case measure => omega
        case rel => exact ⟨kk + 1, by omega, Nat.le_refl _, rfl, Hb6.out, by rw [Hsn.out, List.length_append, List.map_append, List.map_cons, List.map_nil, Hxp.out]; exact Hr6.out⟩
    · obtain rfl : kk = n := by omega
      have hkI : ¬ (kk : Int) < (kk : Int) := by omega
      rw [List.take_of_length_le (by rw [Hn.out]; exact Nat.le_refl _)] at hrw
      obtain ⟨_, D, capD, rfl, hcD1, hcD2, _⟩ := hrw.rowN
      have Hrw := hid hrw
      have Hbel := hid hbel
      have z1 := (H.out.keep hbel).tab.frozen 1
      clear hrw hbel hcD2
      go_wp2_with fail
      go_end0
      have hgs := grown_set wr g 1 (.slice D (rmv L gx).length capD)
      have K := H.out.keep Hbel.out
      have hfr : Frame (fun k => k = g) w (wr.setCell ⟨g, 1, none⟩ (.slice D (rmv L gx).length capD)) := (Below.frameF Hbel.out _).trans (frame_one hgs) (fun _ _ q => q)
      refine ⟨⟨_, rfl⟩, .slice D (rmv L gx).length capD, fun k => F k ∨ (Value.slice D (rmv L gx).length capD).ownBlock = some k, ⟨K.tab.set_ 1 _, (Hrw.out.same fun k hk => hgs.block k (Hrw.out.lt hk).2 (fun e => ?_)).mono ?_, fun y hy => ?_, H.out.apart.sublist List.filter_sublist, ?_, fun y hy => H.out.few y (List.mem_filter.1 hy).1, .inl H.out.fg, fun k hk => .inr hk, fun k hk => ?_⟩, hfr, fun k hk => ?_⟩
      · injection e with e
        subst e
        exact Hrw.out.ne K.tab (by decide) hk
      · have := H.out.flt _ H.out.fg; omega
      · exact ((K.it y (List.mem_filter.1 hy).1).other (frame_one hgs) (rblk_types K.tab (by decide))).weaken (fun k hk => .inl hk)
      · have ho := H.out.ok
        refine ⟨fun y hy => ?_, ?_, ?_⟩
        · obtain ⟨z, hz, rfl⟩ := List.mem_map.1 hy
          exact ho.it _ (List.mem_map_of_mem (List.mem_filter.1 hz).1)
        · exact (((List.filter_sublist).map _).map _).nodup ho.keys
        · rw [List.length_map]
          have := rmv_len L gx
          have := ho.len
          rw [List.length_map] at this
          omega
      · have hsz := hfr.size
        rcases hk with hk | hk
        · have := H.out.flt k hk; omega
        · have h1 := Hrw.out.lt hk
          have h2 := H.out.flt _ H.out.fg
          have h3 := hgs.size
          omega
      · rcases hk with hk | hk
        · exact .inl hk
        · exact .inr (Hrw.out.lt hk).1
end Go.Proofs.Ytbjiicnagfeciaa
