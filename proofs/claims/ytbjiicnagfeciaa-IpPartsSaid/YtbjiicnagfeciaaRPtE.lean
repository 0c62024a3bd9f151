/- Contract of the document's whole. -/
import Derived.Test.YtbjiicnagfeciaaRPtD
import Derived.Test.YtbjiicnagfeciaaIpHelp
namespace Go.Proofs.Ytbjiicnagfeciaa
open Go Go.RowKit
attribute [local go_sem ↓] Go.wp_at_zero Go.wp_at_succ
set_option maxRecDepth 100000

/-- may this part come next behind c bytes? -/
def rNext (c : Nat) (q : Pk) : Bool := decide (q.off = (c : Int)) && !(decide (q.body.length = 0) && q.more)
/-- the bytes of parts, in order, and the time to live; none: some lack -/
def rW (ps : List Pk) : Nat → List UInt8 → Int → Option (List UInt8 × Int)
  | 0, _, _ => none
  | fuel + 1, out, tt => match ps.find? (rNext out.length) with
    | none => none
    | some q => if q.more then rW ps fuel (out ++ q.body) (if out.length = 0 then q.ttl else tt) else some (out ++ q.body, if out.length = 0 then q.ttl else tt)
theorem find_at {α : Type} (ps : List α) (f : α → Bool) (k : Nat) (hk : k < ps.length) (h : ∀ x ∈ ps.take k, f x = false) (hf : f ps[k] = true) : ps.find? f = some ps[k] := by
  have h0 : ps = ps.take k ++ ps[k] :: ps.drop (k + 1) := by rw [← List.drop_eq_getElem_cons hk, List.take_append_drop]
  have h1 : (ps.take k).find? f = none := List.find?_eq_none.2 fun x hx => by simp [h x hx]
  have h2 : (ps.take k ++ ps[k] :: ps.drop (k + 1)).find? f = some ps[k] := by
    rw [List.find?_append, h1, List.find?_cons_of_pos hf]
    rfl
  exact (congrArg (List.find? f) h0).trans h2
def RWholePost (r : Option (List UInt8 × Int)) (w : World) (e : Ending) (w' : World) : Prop :=
  Below w.heap.size w w' ∧ ∃ v', e = .returned (.tuple #[v', .int .i64 ((r.map Prod.snd).getD 0), .bool r.isSome]) ∧ OwnBs w' w.heap.size 5 v' ((r.map Prod.fst).getD [])

set_option maxHeartbeats 4000000 in
theorem rwhole_at (lv : Value) (qs : List (Pk × Value)) (w : World) (hrow : RowN w 9 lv qs.length (pkRow qs)) (hbod : ∀ q ∈ qs, Bs w q.2 q.1.body) (hok : ∀ q ∈ qs, 0 ≤ q.1.off ∧ q.1.to ≤ 65515) (hmany : qs.length ≤ 100000) :
    Calls Try.prog 48 #[lv] w (RWholePost (rW (qs.map Prod.fst) 65516 [] 0) w) := by
  obtain ⟨n, hn⟩ : ∃ n, qs.length = n := ⟨_, rfl⟩
  rw [hn] at hmany hrow
  have Hn := hid hn
  obtain ⟨_, B, capB, rfl, hcB1, hcB2, _⟩ := (show RowN w 9 lv n (pkRow qs) from hrow)
  have HR := hid hrow
  have Hbod := hid hbod
  have Hok := hid hok
  have hcB : capB ≤ 9223372036854775807 := by simp only [maxLen] at hcB2; omega
  obtain ⟨ps, hps⟩ : ∃ ps, qs.map Prod.fst = ps := ⟨_, rfl⟩
  have Hps := hid hps
  have Hpl := hid (show ps.length = n by rw [← hps, List.length_map, hn])
  rw [hps]
  obtain ⟨R, hR⟩ : ∃ R, rW ps 65516 [] 0 = R := ⟨_, rfl⟩
  have HRR := hid hR
  rw [hR]
  clear hok hbod hrow hn hcB2 hps hR
  go_enter Try.func48, Try.ntmps48
  go_wp2_with (fail)
  go_loopg [5, 6] 65516 (fun gk s5 s6 wr => ∃ (out : List UInt8) (tt : Int) (fuel : Nat), s6 = .int .i64 tt ∧ OwnBs wr w.heap.size 5 s5 out ∧ out.length ≤ 65515 ∧ 65516 - out.length ≤ gk ∧ 65516 ≤ fuel + out.length ∧ Hid (rW ps fuel out tt = R) ∧ Below w.heap.size w wr)
  case atStart => exact ⟨[], 0, 65516, rfl, OwnBs.nil _ _ _, by simp, by simp, by simp, HRR, Below.refl _ _⟩
  case round =>
    obtain ⟨out, tt, fuel, rfl, hown, hol, hgk, hfu, hrw, hbel⟩ := hrel
    obtain ⟨c, hc⟩ : ∃ c, out.length = c := ⟨_, rfl⟩
    obtain ⟨D, capD, rfl⟩ := slice_len hown.bs hc
    obtain ⟨fuel, rfl⟩ : ∃ f, fuel = f + 1 := ⟨fuel - 1, by omega⟩
    have Hown := hid hown
    have Hc := hid hc
    have Hbel := hid hbel
    rw [hc] at hol hgk hfu
    clear hown hc hbel
    go_wp2_with fail
    go_loopg [5, 6, 7, 8] n (fun gk s5 s6 s7 s8 wx => ∃ kk : Nat, kk ≤ n ∧ n - kk ≤ gk ∧ s5 = .slice D c capD ∧ s6 = .int .i64 tt ∧ s7 = .bool false ∧ s8 = .int .i64 (kk : Int) ∧ wx = wr ∧ Hid (∀ q ∈ ps.take kk, rNext c q = false))
    case atStart => exact ⟨0, Nat.zero_le _, by omega, rfl, rfl, rfl, rfl, rfl, hid fun q hq => by simp at hq⟩
    case round =>
      obtain ⟨kk, hkk, hgk2, rfl, rfl, rfl, rfl, hwx, hno⟩ := hrel
      subst hwx
      by_cases hkl : kk < n
      · have hkI : (kk : Int) < (n : Int) := by omega
        have hkp : kk < ps.length := by rw [Hpl.out]; exact hkl
        have hkq : kk < qs.length := by rw [Hn.out]; exact hkl
        obtain ⟨gB, oB, rfl, hcell⟩ := rowS_at (HR.out.keep (fun p u hp => cell_below Hbel.out hp)) Hn.out rfl kk hkl
        have hPk : qs[kk].1 = ps[kk] := by
          have := Hps.out
          simp [← this]
        have hPo := Hok.out qs[kk] (List.getElem_mem hkq)
        have hbody := (Hbod.out qs[kk] (List.getElem_mem hkq)).below Hbel.out
        have hfa := find_at ps (rNext c) kk hkp hno.out
        have htk := take_snoc ps kk hkp
        rw [hPk] at hcell hPo hbody
        generalize qs[kk].2 = u at hcell hbody
        generalize ps[kk] = P at hcell hPo hbody hfa htk
        obtain ⟨s1, d1, pr1, id1, of1, mo1, wh1, tt1, bd1⟩ := P
        obtain ⟨U, cu, rfl⟩ := slice_len hbody rfl
        simp only [Pk.to] at hPo
        obtain ⟨hPo1, hPo2⟩ := hPo
        have Hfa := hid hfa
        have Htk := hid htk
        have Hbd := hid hbody
        have e4 : wr.cell? ⟨gB, oB + kk * 9 + 4, none⟩ = some (.int .i64 of1) := hcell 4 _ rfl
        have e5 : wr.cell? ⟨gB, oB + kk * 9 + 5, none⟩ = some (.bool mo1) := hcell 5 _ rfl
        have e7 : wr.cell? ⟨gB, oB + kk * 9 + 7, none⟩ = some (.int .i64 tt1) := hcell 7 _ rfl
        have e8 : wr.cell? ⟨gB, oB + kk * 9 + 8, none⟩ = some (.slice U bd1.length cu) := hcell 8 _ rfl
        have hj1 : IntKind.i64.wrap ((kk : Int) + 1) = ((kk + 1 : Nat) : Int) := by rw [IntWalk.i64_in _ (by omega)]; omega
        clear hcell hfa htk hPk hbody
        have hcs : ((of1 == (c : Int)) = false ∧ (of1 != (c : Int)) = true ∧ ¬ of1 = (c : Int)) ∨ of1 = (c : Int) ∧ (((bd1.length : Int) == 0) = true ∧ bd1.length = 0 ∧ mo1 = true ∨ (((bd1.length : Int) == 0) = false ∧ bd1.length ≠ 0 ∧ mo1 = true ∨ ((bd1.length : Int) == 0) = false ∧ bd1.length ≠ 0 ∧ mo1 = false ∨ ((bd1.length : Int) == 0) = true ∧ bd1.length = 0 ∧ mo1 = false)) := by
          by_cases z1 : of1 = (c : Int) <;> by_cases z2 : bd1.length = 0 <;> cases mo1 <;> simp [z1, z2]
        rcases hcs with ⟨h1, h1n, h1p⟩ | ⟨rfl, ⟨h2, h3, rfl⟩ | hus⟩
        · have Hnx := hid (show rNext c ⟨s1, d1, pr1, id1, of1, mo1, wh1, tt1, bd1⟩ = false by unfold rNext; simp only [Bool.and_eq_false_iff]; left; simpa using h1)
          go_wp2_with fail
          go_roundg (n - (kk + 1))
          case measure => omega
          case rel => exact ⟨kk + 1, by omega, Nat.le_refl _, rfl, rfl, rfl, rfl, rfl, hid (fun q hq => by
            rw [Htk.out] at hq
            rcases List.mem_append.1 hq with hq | hq
            · exact hno.out q hq
            · simp at hq; subst hq; exact Hnx.out)⟩
        · have Hnx := hid (show rNext c ⟨s1, d1, pr1, id1, (c : Int), true, wh1, tt1, bd1⟩ = false by unfold rNext; simp [h3])
          clear h3
          go_wp2_with fail
          go_roundg (n - (kk + 1))
          case measure => omega
          case rel => exact ⟨kk + 1, by omega, Nat.le_refl _, rfl, rfl, rfl, rfl, rfl, hid (fun q hq => by
            rw [Htk.out] at hq
            rcases List.mem_append.1 hq with hq | hq
            · exact hno.out q hq
            · simp at hq; subst hq; exact Hnx.out)⟩
        · have Hnx := hid (show rNext c ⟨s1, d1, pr1, id1, (c : Int), mo1, wh1, tt1, bd1⟩ = true by
            unfold rNext
            rcases hus with ⟨_, h, rfl⟩ | ⟨_, h, rfl⟩ | ⟨_, h, rfl⟩ <;> simp [h])
          obtain ⟨tn, htn⟩ : ∃ tn, (if c = 0 then tt1 else tt) = tn := ⟨_, rfl⟩
          have Hrw := hid (show R = if mo1 then rW ps fuel (out ++ bd1) tn else some (out ++ bd1, tn) by
            have e := hrw.out
            simp only [rW, Hc.out, Hfa.out Hnx.out, htn] at e
            exact e.symm)
          have hct : ((c : Int) == 0) = true ∧ tn = tt1 ∨ ((c : Int) == 0) = false ∧ tn = tt := by
            by_cases z : c = 0
            · left; rw [← htn]; simp [z]
            · right; rw [← htn]; simp [z]
          have hbs := Hbel.out.size
          have hol2 : c + bd1.length ≤ 65515 := by omega
          clear htn
          rcases hct with ⟨ht, rfl⟩ | ⟨ht, rfl⟩ <;> rcases hus with ⟨h2, h3, rfl⟩ | ⟨h2, h3, rfl⟩ | ⟨h2, h3, rfl⟩
          all_goals
            have H3 := hid h3
            have HN := hid hno
            clear h3
            go_wp2_with (first
              | ((with_reducible show wpList _ _ _ (Oper.mk (some 67) _ _ _ _ _ :: _) _ _); refine wpList_app8 _ rfl _ _ 23 rfl w.heap.size 5 u8ok _ out rfl Hown.out _ bd1 rfl Hbd.out (by rw [Hc.out]; omega) hbs ?_; intro v6 w6 hown6 hb6 hg6 hat6; have Hown6 := hid hown6; have Hb6 := hid (Hbel.out.trans hb6); clear hown6 hb6 hg6 hat6)
              | ((with_reducible show wpList _ _ _ (Oper.mk (some 75) _ _ _ _ _ :: _) _ _); refine wpList_app8 _ rfl _ _ 23 rfl w.heap.size 5 u8ok _ out rfl Hown.out _ bd1 rfl Hbd.out (by rw [Hc.out]; omega) hbs ?_; intro v6 w6 hown6 hb6 hg6 hat6; have Hown6 := hid hown6; have Hb6 := hid (Hbel.out.trans hb6); clear hown6 hb6 hg6 hat6)
              | fail)
            first
              | (go_roundg (65516 - (c + bd1.length))
                 case measure => have := H3.out; omega
                 case rel => exact ⟨out ++ bd1, _, fuel, rfl, Hown6.out, by rw [List.length_append, Hc.out]; omega, by rw [List.length_append, Hc.out]; exact Nat.le_refl _, by rw [List.length_append, Hc.out]; have := H3.out; omega, hid (by rw [Hrw.out]; rfl), Hb6.out⟩)
              | (go_ret3
                 unfold RWholePost
                 rw [Hrw.out]
                 exact ⟨Hb6.out, v6, rfl, Hown6.out⟩)
      · obtain rfl : kk = n := by omega
        have hkI : ¬ (kk : Int) < (kk : Int) := by omega
        have Hnone := hid (show R = none by
          have e := hrw.out
          have hf : ps.find? (rNext c) = none := List.find?_eq_none.2 fun q hq => by
            have := hno.out q (by rw [List.take_of_length_le (by rw [Hpl.out]; exact Nat.le_refl _)]; exact hq)
            simp [this]
          simp only [rW, Hc.out, hf] at e
          exact e.symm)
        go_wp2_with fail
        go_ret3
        unfold RWholePost
        rw [Hnone.out]
        exact ⟨Hbel.out, _, rfl, OwnBs.nil _ _ _⟩
end Go.Proofs.Ytbjiicnagfeciaa
