/- What is in order flows. -/
import Derived.Test.YtahlcjkcdgahkaaTcpS
import Derived.Deep.LoopGhost
import Derived.Deep.Cut
import Derived.Deep.CutRange
import Derived.BigQuiet
import Derived.Deep.QuietTactic
namespace Go.Proofs.Ytahlcjkcdgahkaa
open Go Go.RowKit
attribute [local go_sem ↓] Go.wp_at_zero Go.wp_at_succ
set_option maxRecDepth 100000

theorem u8zero (w : World) : (zeroValue 5).run Try.prog w = .ok (.int .u8 0) w := by kernel_rfl
theorem cell_grownT {w w' : World} {g b o : Nat} {u : Value} (hg : w.grownBy w' (some b)) (hne : g ≠ b) (hc : w.cell? ⟨g, o, none⟩ = some u) : w'.cell? ⟨g, o, none⟩ = some u := by
  have hlt := World.block_lt_of_cell? w _ hc
  have e := hg.block g hlt (fun e => by injection e with e; exact hne e)
  simpa [World.cell?, e] using hc
theorem MapU.lt' {P : Program} {k : TypeId} {w : World} {b n : Nat} {f : Nat → Option Value} (h : MapU P k w b n f) {base : Nat} {t : TypeId} {size m : Nat} {v : Value} {xs : List Value} (ho : RowAtS w base t size v m xs) : ∀ g, v.ownBlock = some g → some g ≠ some b := fun g hg e => by
  injection e with e
  subst e
  exact own_ne_map ho h hg
theorem ConnAt.mapW {w w' : World} {base g : Nat} {c : TConn} {m m' : Nat} {vr : Value} {gM : Nat} {vb : Value} {f f' : Nat → Option Value} {F : Nat → Prop} (h : ConnAt w base g c m vr gM vb f F) (hg : w.grownBy w' (some gM)) (hm : MapU Try.prog 22 w' gM m' f') (e' : Nat → Option UInt8)
    (he : ∀ k, k < 4294967296 → f' k = earlyV e' k) : ConnAt w' base g { c with inn := { c.inn with early := e' } } m' vr gM vb f' F := by
  refine ⟨h.tab.mapWrite h.map hg, World.ownsRow.kept h.ready hg ?_, h.bytes.kept hg (MapU.lt' h.map h.bytes), hm, he, h.fg, h.fM, h.fr, h.fb, fun k hk => ⟨(h.flt k hk).1, Nat.lt_of_lt_of_le (h.flt k hk).2 hg.size⟩, h.ap⟩
  rcases hv : vr.ownBlock with _ | g1
  · exact .inl rfl
  · exact .inr (MapU.lt' h.map (RowAtS.of_own h.ready) g1 hv)
theorem Frame.step {F F' : Nat → Prop} {w w1 w2 : World} (h : Frame F w w1) (k : Frame F' w1 w2) (hn : ∀ k, F' k → F k ∨ w.heap.size ≤ k) : Frame F w w2 := h.trans k (fun i hi hf => (hn i hf).resolve_right (by omega))
theorem Frame.one {F : Nat → Prop} {w w' : World} {g : Nat} (hg : w.grownBy w' (some g)) (h : F g) : Frame F w w' := frame_grown hg (fun k hk => by injection hk with hk; subst hk; exact h)
/-- bytes are appended to those that came in order -/
theorem ConnAt.grownReady {w w1 w' : World} {base g : Nat} {c : TConn} {m : Nat} {vr : Value} {gM : Nat} {vb : Value} {f : Nat → Option Value} {F : Nat → Prop} (h : ConnAt w base g c m vr gM vb f F) (hb : Below w.heap.size w w1) (hg : w1.grownBy w' vr.ownBlock) :
    Blk w' g 84 (c.cells vr (.map (some gM)) vb) := by
  have h1 := h.same hb
  exact h1.tab.grown hg (fun e => ownBs_ne h.ready h.tab (by decide) e.symm)
theorem ConnAt.readyW {w w1 w' : World} {base g : Nat} {c : TConn} {m : Nat} {vr v' : Value} {gM : Nat} {vb : Value} {f : Nat → Option Value} {F : Nat → Prop} {bs' : List UInt8} (h : ConnAt w base g c m vr gM vb f F) (hb : Below w.heap.size w w1) (hg : w1.grownBy w' vr.ownBlock)
    (hown : OwnBs w' base 5 v' bs') (hat : v'.ownBlock = vr.ownBlock ∨ v'.ownBlock = some w1.heap.size) :
    ConnAt (w'.setCell ⟨g, 1, none⟩ v') base g { c with inn := { c.inn with ready := bs' } } m v' gM vb f (fun k => F k ∨ v'.ownBlock = some k) := by
  have h1 := h.same hb
  have ht : Blk w' g 84 (c.cells vr (.map (some gM)) vb) := h1.tab.grown hg (fun e => ownBs_ne h.ready h.tab (by decide) e.symm)
  have hgs := grown_set w' g 1 v'
  have hm : MapU Try.prog 22 w' gM m f := h1.map.kept hg (fun e => own_ne_map (RowAtS.of_own h.ready) h.map e.symm)
  have hby : RowAtS w' base 5 1 vb c.out.bytes.length (c.out.bytes.map u8v) := h1.bytes.kept hg (fun k hk e => h.ap k e.symm hk)
  refine ⟨ht.set_ 1 v', ownBs_store hown ht (by decide) hgs, ?_, hm.grownCells ht hgs, h.early, .inl h.fg, .inl h.fM, fun k hk => .inr hk, fun k hk => .inl (h.fb k hk), fun k hk => ?_, fun k hk hk2 => ?_⟩
  · exact hby.kept hgs fun k hk e => by
      injection e with e
      subst e
      exact hby.ne ht (by decide) hk
  · rcases hk with hk | hk
    · exact ⟨(h.flt k hk).1, by have := (h.flt k hk).2; have := hb.size; have := hg.size; simp; omega⟩
    · have := World.ownsRow.lt hown k hk
      exact ⟨this.1, by simpa using this.2⟩
  · rcases hat with e | e
    · rw [e] at hk; exact h.ap k hk hk2
    · rw [e] at hk
      injection hk with hk
      have := (h.flt k (h.fb k hk2)).2
      have := hb.size
      omega
/-- what an operation does to a connection in block g: its new blocks may be the connection's -/
def ConnTo (base g : Nat) (c : TConn) (m : Nat) (F : Nat → Prop) (w w' : World) : Prop := ∃ F', ConnInv w' base g c m F' ∧ Frame F w w' ∧ ∀ k, F' k → F k ∨ w.heap.size ≤ k
def FlowPost (base g : Nat) (c : TConn) (m : Nat) (F : Nat → Prop) (w : World) (e : Ending) (w' : World) : Prop := (∃ u, e = .returned u) ∧ ConnTo base g { c with inn := tFlow c.inn } m F w w'
/-- where the flow stands -/
def FlowAt (base g : Nat) (c : TConn) (m : Nat) (F : Nat → Prop) (w : World) (gk : Nat) (wr : World) : Prop := ∃ i, InOk i ∧ gk = i.q + 1 ∧ tFlowN gk i = tFlow c.inn ∧ ConnTo base g { c with inn := i } m F w wr
set_option maxHeartbeats 2000000 in
theorem flow_any (base g : Nat) (c : TConn) (m : Nat) (F : Nat → Prop) (w : World) (h : ConnInv w base g c m F) (hi : InOk c.inn) :
    Calls Try.prog 40 #[.pointer (some ⟨g, 0, none⟩)] w (FlowPost base g c m F w) := by
  have h0 : FlowAt base g c m F w (c.inn.q + 1) w := ⟨c.inn, hi, rfl, rfl, F, h, Frame.refl _ _, fun k hk => .inl hk⟩
  have H0 := hid h0
  clear h0 h hi
  go_enter Try.func40, Try.ntmps40
  go_wp2
  go_loopg [2] (c.inn.q + 1) (fun gk _ wr => FlowAt base g c m F w gk wr)
  case atStart => exact H0.out
  case round =>
    clear H0
    obtain ⟨i, hok, rfl, hfl, F', ⟨vr, gM, vb, f, h⟩, hfr, hnew⟩ := hrel
    have H := hid h
    have Hok := hid hok
    have Hfl := hid hfl
    have Hfr := hid hfr
    have Hnew := hid hnew
    have c0 : wr.cell? ⟨g, 0, none⟩ = some (.int .u32 (i.r : Int)) := h.tab.cell 0
    have c1 : wr.cell? ⟨g, 1, none⟩ = some vr := h.tab.cell 1
    have c2 : wr.cell? ⟨g, 2, none⟩ = some (.map (some gM)) := h.tab.cell 2
    have c3 : wr.cell? ⟨g, 3, none⟩ = some (.int .u32 (i.fin : Int)) := h.tab.cell 3
    have c4 : wr.cell? ⟨g, 4, none⟩ = some (.bool i.told) := h.tab.cell 4
    have c5 : wr.cell? ⟨g, 5, none⟩ = some (.bool i.done) := h.tab.cell 5
    clear h hok hfl hfr hnew
    cases hd : i.done with
    | true =>
      rw [hd] at c5
      have Hd := hid hd
      clear hd
      go_wp2_with fail
      go_end0
      have e1 : tFlow c.inn = i := by rw [← Hfl.out, tFlowN, if_pos Hd.out]
      refine ⟨⟨_, rfl⟩, F', ?_, Hfr.out, Hnew.out⟩
      rw [e1]
      exact ⟨vr, gM, vb, _, H.out⟩
    | false =>
      rw [hd] at c5
      have Hd := hid hd
      clear hd
      go_wp2_with fail
      obtain ⟨tb, htb⟩ : ∃ tb, (i.told && decide (i.fin = i.r)) = tb := ⟨_, rfl⟩
      have Htb := hid htb
      clear htb
      go_cut [23] from 9 to 24 (fun s wx => s = .bool tb ∧ ∃ q, wx = wr.drewN q)
      case first =>
        have htb := Htb.out
        cases ht : i.told with
        | false =>
          rw [ht] at c4 htb
          have e1 : tb = false := by rw [← htb]; rfl
          subst e1
          clear htb ht
          go_quiet (fail)
          go_wp2_with fail
          go_meet
          case rel => exact ⟨rfl, nq, rfl⟩
        | true =>
          rw [ht] at c4 htb
          by_cases he : i.fin = i.r
          · have e1 : tb = true := by rw [← htb, he]; simp
            subst e1
            rw [he] at c3
            clear htb ht he
            go_quiet (fail)
            go_wp2_with fail
            go_meet
            case rel => exact ⟨rfl, nq, rfl⟩
          · have e1 : tb = false := by rw [← htb]; simp [he]
            subst e1
            clear htb ht
            go_quiet (fail)
            go_wp2_with fail
            go_meet
            case rel => exact ⟨congrArg Value.bool (by simp; omega), nq, rfl⟩
      case rest =>
      obtain ⟨rfl, q, hwc⟩ := hcut
      have hb : Below wr.heap.size wr wc := by rw [hwc]; exact below_drewN (Below.refl _ _) q
      clear hwc
      have Hb := hid hb
      have HC := hid (H.out.same hb)
      clear hb c0 c1 c2 c3 c4 c5
      have c0 : wc.cell? ⟨g, 0, none⟩ = some (.int .u32 (i.r : Int)) := HC.out.tab.cell 0
      have c1 : wc.cell? ⟨g, 1, none⟩ = some vr := HC.out.tab.cell 1
      have c2 : wc.cell? ⟨g, 2, none⟩ = some (.map (some gM)) := HC.out.tab.cell 2
      have c5 : wc.cell? ⟨g, 5, none⟩ = some (.bool false) := by have := HC.out.tab.cell 5; rw [this]; show some (Value.bool i.done) = _; rw [Hd.out]
      have z5 := HC.out.tab.frozen 5
      have z0 := HC.out.tab.frozen 0
      have z1 := HC.out.tab.frozen 1
      go_step
      cases tb with
      | true =>
        obtain ⟨r1, hr1⟩ : ∃ r1, (i.r + 1) % 4294967296 = r1 := ⟨_, rfl⟩
        have hrI : ((i.r : Int) + 1) % 4294967296 = (r1 : Int) := by omega
        have Hr1 := hid hr1
        clear hr1
        have gg := grown_trans (grown_set wc g 5 (.bool true)) (grown_set (wc.setCell ⟨g, 5, none⟩ (.bool true)) g 0 (.int .u32 (r1 : Int)))
        have HC1 : Hid (ConnAt ((wc.setCell ⟨g, 5, none⟩ (.bool true)).setCell ⟨g, 0, none⟩ (.int .u32 (r1 : Int))) base g { c with inn := { i with done := true, r := r1 } } m vr gM vb f F') := hid (HC.out.stored gg ((HC.out.tab.set_ 5 (.bool true)).set_ 0 (.int .u32 (r1 : Int))) rfl rfl rfl)
        have Hgg := hid gg
        clear gg
        go_wp2_with (refine wpList_clearU rfl _ _ _ rfl Try.underlying78 rfl HC1.out.map ?_; intro w5 hm5 hg5)
        go_end0
        have HC2 := HC1.out.mapW hg5 hm5 (fun _ => none) (fun _ _ => rfl)
        have e1 : tFlow c.inn = { i with done := true, r := r1, early := fun _ => none } := by
          rw [← Hfl.out]
          have ht := Htb.out
          simp only [Bool.and_eq_true, decide_eq_true_eq] at ht
          rw [tFlowN, if_neg (by rw [Hd.out]; simp), if_pos ht, Hr1.out]
        refine ⟨⟨_, rfl⟩, F', ?_, ?_, Hnew.out⟩
        · rw [e1]
          exact ⟨vr, gM, vb, _, HC2.tab, HC2.ready, HC2.bytes, HC2.map.mono (Nat.zero_le _), HC2.early, HC2.fg, HC2.fM, HC2.fr, HC2.fb, HC2.flt, HC2.ap⟩
        · exact Hfr.out.step (((Below.frameF Hb.out F').trans (Frame.one Hgg.out HC.out.fg) (fun _ _ h => h)).trans (Frame.one hg5 HC.out.fM) (fun _ _ h => h)) Hnew.out
      | false =>
        have hlk := HC.out.map.lookOk Try.underlying22 Try.underlying78 (u8zero _) i.r Hok.out.r
        rw [HC.out.early i.r Hok.out.r] at hlk
        have HCm := hid HC.out.map
        have HR := hid Hok.out.r
        have Hlk0 := hid (fun (wx : World) (hb : Below wc.heap.size wc wx) => by
          have := (HC.out.map.keep hb).lookOk Try.underlying22 Try.underlying78 (u8zero wx) i.r Hok.out.r
          rw [HC.out.early i.r Hok.out.r] at this
          exact this)
        cases he : i.early i.r with
        | none =>
          have Hlk := hid (fun (wx : World) (hb : Below wc.heap.size wc wx) => by have := Hlk0.out wx hb; rw [show earlyV i.early i.r = none by unfold earlyV; rw [he]; rfl] at this; exact (show (Instr.lookup 78 (.map (some gM)) (.int .u32 (i.r : Int)) true).run Try.prog wx = .ok (.tuple #[.int .u8 0, .bool false]) wx from this))
          clear hlk Hlk0
          go_wp2_with fail
          go_region_held3 (fun wy => wy.cell? ⟨g, 0, none⟩ = some (.int .u32 (i.r : Int)) ∧ wy.cell? ⟨g, 2, none⟩ = some (.map (some gM)) ∧ (Instr.lookup 78 (.map (some gM)) (.int .u32 (i.r : Int)) true).run Try.prog wy = .ok (.tuple #[.int .u8 0, .bool false]) wy) (first | exact ⟨c0, c2, Hlk.out _ (Below.refl _ _)⟩ | exact ⟨cell_below (below_drew _) c0, cell_below (below_drew _) c2, Hlk.out _ (below_drew _)⟩) (fail)
          all_goals
            go_wp2_with fail
            go_end0
            have e1 : tFlow c.inn = i := by
              rw [← Hfl.out]
              have ht := Htb.out
              rw [tFlowN, if_neg (by rw [Hd.out]; simp), if_neg (by intro h; simp [h.1, h.2] at ht), he]
            refine ⟨⟨_, rfl⟩, F', ?_, ?_, Hnew.out⟩
            · rw [e1]
              exact ⟨vr, gM, vb, _, HC.out.same (below_drew _)⟩
            · exact Hfr.out.step ((Below.frameF Hb.out F').trans (Below.frameF (below_drew _) F') (fun _ _ h => h)) Hnew.out
        | some b =>
          have Hlk := hid (fun (wx : World) (hb : Below wc.heap.size wc wx) => by have := Hlk0.out wx hb; rw [show earlyV i.early i.r = some (.int .u8 (b.toNat : Int)) by unfold earlyV; rw [he]; rfl] at this; exact (show (Instr.lookup 78 (.map (some gM)) (.int .u32 (i.r : Int)) true).run Try.prog wx = .ok (.tuple #[.int .u8 (b.toNat : Int), .bool true]) wx from this))
          clear hlk Hlk0
          have He := hid he
          clear he
          go_wp2_with fail
          go_region_held3 (fun wy => wy.cell? ⟨g, 0, none⟩ = some (.int .u32 (i.r : Int)) ∧ wy.cell? ⟨g, 2, none⟩ = some (.map (some gM)) ∧ (Instr.lookup 78 (.map (some gM)) (.int .u32 (i.r : Int)) true).run Try.prog wy = .ok (.tuple #[.int .u8 (b.toNat : Int), .bool true]) wy) (first | exact ⟨c0, c2, Hlk.out _ (Below.refl _ _)⟩ | exact ⟨cell_below (below_drew _) c0, cell_below (below_drew _) c2, Hlk.out _ (below_drew _)⟩) (fail)
          have HD := hid (HC.out.same (below_drew _))
          have Hb2 := hid (Hb.out.trans ((below_drew wc).mono Hb.out.size))
          clear Hlk HCm HC Hb c0 c1 c2 c5 z5 z0 z1
          generalize wc.drew = wd at *
          have c0 : wd.cell? ⟨g, 0, none⟩ = some (.int .u32 (i.r : Int)) := HD.out.tab.cell 0
          have c2 : wd.cell? ⟨g, 2, none⟩ = some (.map (some gM)) := HD.out.tab.cell 2
          go_wp2_with fail
          have Hne := hid (HD.out.map.ne HD.out.tab)
          go_region_held3 (fun wy => wy.cell? ⟨g, 0, none⟩ = some (.int .u32 (i.r : Int)) ∧ wy.cell? ⟨g, 2, none⟩ = some (.map (some gM))) (first | exact ⟨c0, c2⟩ | exact ⟨cell_below (below_drew _) c0, cell_below (below_drew _) c2⟩ | exact HS4.out) (first
            | (refine step_deleteU (by rfl) _ _ 78 5 (by rfl) Try.underlying22 Try.underlying78 (by rfl) (by first | exact HD.out.map | exact HD.out.map.drew) i.r HR.out (by rfl) ?_; intro w5 hm5 hg5; have Hm5 := hid hm5; have Hg5 := hid (show wd.grownBy w5 (some gM) from by first | exact hg5 | exact grown_trans (grown_drew wd _) hg5); have HS4 := hid (show w5.cell? ⟨g, 0, none⟩ = some (.int .u32 (i.r : Int)) ∧ w5.cell? ⟨g, 2, none⟩ = some (.map (some gM)) from ⟨cell_grownT Hg5.out Hne.out c0, cell_grownT Hg5.out Hne.out c2⟩); clear hm5 hg5)
            | fail)
          have HE := hid (HD.out.mapW Hg5.out Hm5.out (fun x => if x = i.r then none else i.early x) (fun k hk => by
            unfold updU
            by_cases e : k = i.r
            · rw [if_pos e]
              show none = Option.map _ (if k = i.r then none else i.early k)
              rw [if_pos e]
              rfl
            · rw [if_neg e]
              show f k = Option.map _ (if k = i.r then none else i.early k)
              rw [if_neg e]
              exact HD.out.early k hk))
          have Hb3 := hid (((Below.frameF Hb2.out F').trans (Frame.one Hg5.out HD.out.fM) (fun _ _ h => h)))
          clear c0 c2 HS4
          have hlen := (Hok.out.take He.out)
          have Htake := hid hlen
          clear hlen
          have c1 : w5.cell? ⟨g, 1, none⟩ = some vr := HE.out.tab.cell 1
          have hbase : base ≤ w5.heap.size := by have := (HE.out.flt g HE.out.fg); omega
          have Hrl := hid Hok.out.len
          obtain ⟨n7, hn7⟩ : ∃ n, (i.ready ++ [b]).length = n := ⟨_, rfl⟩
          have Hn7 := hid hn7
          clear hn7
          go_upto_region 9 with (first
            | ((with_reducible show wpList _ _ _ (Oper.mk (some 67) _ _ _ _ _ :: _) _ _); refine wpList_app8 _ rfl _ _ 28 rfl base 5 u8ok vr i.ready rfl (HE.out.ready.alloc _) _ [b] rfl (bs_one rfl) (by have := Hrl.out; simp; omega) (by simp; omega) ?_; intro v7 w7 hown7 hb7 hg7 hat7; obtain ⟨A7, cap7, rfl⟩ := slice_len hown7.bs Hn7.out; have Ho7 := hid hown7; have Hg7 := hid hg7; have Hat7 := hid hat7; have Hb7 := hid hb7; have ht7 := HE.out.grownReady (below_alloc w5 _) hg7; have d1 : w7.cell? ⟨g, 1, none⟩ = some vr := ht7.cell 1; have z1 := ht7.frozen 1; clear hown7 hg7 hat7 ht7 hb7))
          have HF := hid (HE.out.readyW (below_alloc w5 _) Hg7.out Ho7.out Hat7.out)
          have HFr := hid (((Frame.step (Hb3.out.trans (Below.frameF (below_alloc w5 (.cells #[.int .u8 (b.toNat : Int)] 5)) F') (fun _ _ h => h)) (frame_grown Hg7.out (F := F') (fun k hk => HE.out.fr k hk)) (fun _ h => .inl h)).trans (Frame.one (grown_set w7 g 1 (.slice A7 n7 cap7)) HE.out.fg) (fun _ _ h => h)))
          have hsz7 : w5.heap.size ≤ w7.heap.size := by have := Hb7.out.size; have := HE.out.tab.lt; have := Hg7.out.size; simp at this; omega
          have Hs7 := hid (show wr.heap.size ≤ w5.heap.size from Hb3.out.size)
          have Hsz7 := hid hsz7
          obtain ⟨r1, hr1⟩ : ∃ r1, (i.r + 1) % 4294967296 = r1 := ⟨_, rfl⟩
          have hrI : ((i.r : Int) + 1) % 4294967296 = (r1 : Int) := by omega
          have Hr1 := hid hr1
          clear hr1 hsz7 d1 z1 c1
          generalize w7.setCell ⟨g, 1, none⟩ (.slice A7 n7 cap7) = w8 at *
          have d0 : w8.cell? ⟨g, 0, none⟩ = some (.int .u32 (i.r : Int)) := HF.out.tab.cell 0
          have z0 := HF.out.tab.frozen 0
          go_wp2_with fail
          go_roundg (i.q)
          case measure => omega
          case rel =>
            have hst := HF.out.stored (c' := { c with inn := { i with early := fun x => if x = i.r then none else i.early x, ready := i.ready ++ [b], r := r1 } }) (grown_set w8 g 0 (.int .u32 (r1 : Int))) (HF.out.tab.set_ 0 (.int .u32 (r1 : Int))) rfl rfl rfl
            have htk := Htake.out
            rw [Hr1.out] at htk
            refine ⟨_, htk.1, htk.2, ?_, _, ⟨_, _, _, _, hst⟩, ?_, ?_⟩
            · rw [← Hfl.out, tFlowN, if_neg (by rw [Hd.out]; simp), if_neg (by intro h; have ht := Htb.out; simp [h.1, h.2] at ht), He.out]
              simp only [Hr1.out]
            · exact Hfr.out.step (HFr.out.trans (Frame.one (grown_set w8 g 0 (.int .u32 (r1 : Int))) HE.out.fg) (fun _ _ h => h)) Hnew.out
            · intro k hk
              rcases hk with hk | hk
              · exact Hnew.out k hk
              · rcases Hat7.out with e | e
                · rw [e] at hk; exact Hnew.out k (HE.out.fr k hk)
                · rw [e] at hk
                  injection hk with hk
                  right
                  have := Hs7.out
                  have := Hfr.out.size
                  simp at hk
                  omega
end Go.Proofs.Ytahlcjkcdgahkaa
