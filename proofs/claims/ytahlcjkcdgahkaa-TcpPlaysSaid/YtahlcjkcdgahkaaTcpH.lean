/- The bytes of a segment are noted. -/
import Derived.Test.YtahlcjkcdgahkaaTcpF
namespace Go.Proofs.Ytahlcjkcdgahkaa
open Go Go.RowKit
attribute [local go_sem ↓] Go.wp_at_zero Go.wp_at_succ
set_option maxRecDepth 100000

theorem cell_mapW {P : Program} {k : TypeId} {w w' : World} {b n : Nat} {f : Nat → Option Value} (h : MapU P k w b n f) (hg : w.grownBy w' (some b)) {p : Addr} {x : Value} (hc : w.cell? p = some x) : w'.cell? p = some x := by
  have hlt := World.block_lt_of_cell? w _ hc
  have hne : p.block ≠ b := by
    intro e
    obtain ⟨es, clock, hm⟩ := h.isMap
    unfold World.cell? at hc
    rw [e, hm] at hc
    cases hc
  have e := hg.block p.block hlt (fun e => by injection e with e; exact hne e)
  simpa [World.cell?, e] using hc
theorem Bs.mapW {P : Program} {k : TypeId} {w w' : World} {b n : Nat} {f : Nat → Option Value} {v : Value} {bs : List UInt8} (hb : Bs w v bs) (h : MapU P k w b n f) (hg : w.grownBy w' (some b)) : Bs w' v bs := RowN.keep hb fun _ _ hc => cell_mapW h hg hc
def NotePost (base g : Nat) (c : TConn) (m : Nat) (F : Nat → Prop) (s : TSeg) (w : World) (e : Ending) (w' : World) : Prop := (∃ u, e = .returned u) ∧ ConnInv w' base g { c with inn := tNote c.inn s } (m + s.data.length) F ∧ Frame F w w'
/-- k bytes are noted -/
structure NoteAt (base g : Nat) (c : TConn) (m : Nat) (F : Nat → Prop) (data : List UInt8) (sq : Nat) (v : Value) (w0 : World) (box : List Value) (vr : Value) (gM : Nat) (vb : Value) (k : Nat) (e : Nat → Option UInt8) (f : Nat → Option Value) (wr : World) : Prop where
  at_ : ConnAt wr base g { c with inn := { c.inn with early := e } } (m + k) vr gM vb f F
  put : earlyPut e c.inn.r c.inn.q sq (data.drop k) k = earlyPut c.inn.early c.inn.r c.inn.q sq data 0
  box : Blk wr w0.heap.size 30 box
  bs : Bs wr v data
  fr : Frame F w0 wr
theorem earlyPut_drop {e : Nat → Option UInt8} {r q sq : Nat} {data : List UInt8} {k : Nat} {X : Nat → Option UInt8} (h : earlyPut e r q sq (data.drop k) k = X) (hk : k < data.length) :
    earlyPut (fun x => if x = (sq + k) % 4294967296 ∧ e x = none ∧ ((sq + k) % 4294967296 + 4294967296 - r) % 4294967296 < q then some data[k] else e x) r q sq (data.drop (k + 1)) (k + 1) = X := by
  rw [List.drop_eq_getElem_cons hk] at h
  exact h
set_option maxHeartbeats 4000000 in
theorem note_any (base g : Nat) (c : TConn) (m : Nat) (F : Nat → Prop) (s : TSeg) (A : Option Addr) (n cap : Nat) (w : World) (h : ConnInv w base g c m F) (hi : InOk c.inn) (hs : s.seq < 4294967296) (hd : Bs w (.slice A n cap) s.data) (hl : n ≤ 100000) (hm : m ≤ 1000000000) :
    Calls Try.prog 39 #[.pointer (some ⟨g, 0, none⟩), s.val (.slice A n cap)] w (NotePost base g c m F s w) := by
  obtain ⟨s0, d0, sq, ak, fl, wi, ms, data⟩ := s
  dsimp only [TSeg.val, TSeg.cells]
  simp only at hs hd
  have hdl : data.length = n := hd.open.1
  obtain ⟨vr, gM, vb, f, h⟩ := h
  have H := hid h
  have Hi := hid hi
  obtain ⟨rl, hrl⟩ : ∃ n, c.inn.ready.length = n := ⟨_, rfl⟩
  obtain ⟨Ar, capr, rfl⟩ := slice_len h.ready.bs hrl
  have hrl2 : rl ≤ 16384 := by rw [← hrl]; exact hi.len
  have Hrl := hid hrl
  have Hdl := hid hdl
  obtain ⟨q, hq⟩ : ∃ q, c.inn.q = q := ⟨_, rfl⟩
  have Hq := hid hq
  have hqI : ((16384 : Int) - (rl : Int)) % 4294967296 = (q : Int) := by rw [← hq]; unfold TIn.q; rw [hrl]; omega
  have hqs : q ≤ 16384 := by rw [← hq]; unfold TIn.q; omega
  have H1 := hid (h.same (below_alloc w (.cells #[.int .i64 s0, .int .i64 d0, .int .u32 (sq : Int), .int .u32 (ak : Int), .int .i64 fl, .int .i64 wi, .int .i64 ms, .slice A n cap] 30)))
  have c1 : (w.alloc (.cells #[.int .i64 s0, .int .i64 d0, .int .u32 (sq : Int), .int .u32 (ak : Int), .int .i64 fl, .int .i64 wi, .int .i64 ms, .slice A n cap] 30)).cell? ⟨g, 1, none⟩ = some (.slice Ar rl capr) := H1.out.tab.cell 1
  have HW := hid (window_any g Ar rl capr _ c1 hrl2)
  have N0 : NoteAt base g c m F data sq (.slice A n cap) w #[.int .i64 s0, .int .i64 d0, .int .u32 (sq : Int), .int .u32 (ak : Int), .int .i64 fl, .int .i64 wi, .int .i64 ms, .slice A n cap].toList (.slice Ar rl capr) gM vb 0 c.inn.early f (w.alloc (.cells #[.int .i64 s0, .int .i64 d0, .int .u32 (sq : Int), .int .u32 (ak : Int), .int .i64 fl, .int .i64 wi, .int .i64 ms, .slice A n cap] 30)) := ⟨H1.out, rfl, Blk.new _ _ _, hd.alloc _, Below.frameF (below_alloc w _) F⟩
  have N0 := hid N0
  have HD := hid hd
  clear h hi hrl hdl hq hd c1
  go_enter Try.func39, Try.ntmps39
  go_upto_region 3 with (go_at_call 45; refine HW.out.mono ?_; rintro e w' ⟨rfl, rfl⟩)
  clear HW H1
  go_loopg [17] n (fun gk i wr => ∃ (k : Nat) (e : Nat → Option UInt8) (f : Nat → Option Value), k ≤ n ∧ gk = n - k ∧ i = .int .i64 (k : Int) ∧ NoteAt base g c m F data sq (.slice A n cap) w #[.int .i64 s0, .int .i64 d0, .int .u32 (sq : Int), .int .u32 (ak : Int), .int .i64 fl, .int .i64 wi, .int .i64 ms, .slice A n cap].toList (.slice Ar rl capr) gM vb k e f wr)
  case atStart => exact ⟨0, _, _, by omega, rfl, rfl, N0.out⟩
  case round =>
    obtain ⟨k, e, f', hk, rfl, rfl, hN⟩ := hrel
    have HN := hid hN
    have b7 : wr.cell? ⟨w.heap.size, 7, none⟩ = some (.slice A n cap) := hN.box.cell 7
    have b4 : wr.cell? ⟨w.heap.size, 4, none⟩ = some (.int .i64 fl) := hN.box.cell 4
    have b2 : wr.cell? ⟨w.heap.size, 2, none⟩ = some (.int .u32 (sq : Int)) := hN.box.cell 2
    have c0 : wr.cell? ⟨g, 0, none⟩ = some (.int .u32 (c.inn.r : Int)) := hN.at_.tab.cell 0
    have c2 : wr.cell? ⟨g, 2, none⟩ = some (.map (some gM)) := hN.at_.tab.cell 2
    by_cases hlt : k < n
    · have t1 : (k : Int) < (n : Int) := by omega
      have hkd : k < data.length := by rw [Hdl.out]; exact hlt
      obtain ⟨b, off, rfl, hcell⟩ := (hN.bs.open.2.2.2).resolve_left (by omega)
      have hcb := hcell k hkd
      have hp := earlyPut_drop hN.put hkd
      clear hcell hN
      obtain ⟨x, hx⟩ : ∃ x, data[k] = x := ⟨_, rfl⟩
      rw [hx] at hcb hp
      obtain ⟨sk, hsk⟩ : ∃ sk, (sq + k) % 4294967296 = sk := ⟨_, rfl⟩
      have hskI : ((sq : Int) + (k : Int)) % 4294967296 = (sk : Int) := by omega
      have hskL : sk < 4294967296 := by omega
      rw [hsk] at hp
      obtain ⟨d, hd⟩ : ∃ d, (sk + 4294967296 - c.inn.r) % 4294967296 = d := ⟨_, rfl⟩
      have hrL := Hi.out.r
      have hdI : ((sk : Int) - (c.inn.r : Int)) % 4294967296 = (d : Int) := by omega
      have Hlk0 := hid (fun (wx : World) (hb : Below wr.heap.size wr wx) => by
        have := (HN.out.at_.map.keep hb).lookOk Try.underlying22 Try.underlying78 (u8zero wx) sk hskL
        rw [HN.out.at_.early sk hskL] at this
        exact this)
      have hlk := Hlk0.out wr (Below.refl _ _)
      have hk1 : IntKind.i64.wrap ((k : Int) + 1) = ((k + 1 : Nat) : Int) := by rw [IntWalk.i64_in _ (by omega)]; omega
      have Hp := hid hp
      have Hd := hid hd
      have HskL := hid hskL
      have Hlt := hid hlt
      clear hp hx hsk hd hskL hkd Hlk0 hrL
      cases he : e sk with
      | some y =>
        have hlk2 : (Instr.lookup 78 (.map (some gM)) (.int .u32 (sk : Int)) true).run Try.prog wr = .ok (.tuple #[.int .u8 (y.toNat : Int), .bool true]) wr := by
          rw [hlk]
          show Result.ok (Value.tuple #[(earlyV e sk).getD _, .bool (earlyV e sk).isSome]) wr = _
          unfold earlyV
          rw [he]
          rfl
        have He := hid he
        clear he hlk
        go_wp2_with fail
        go_roundg (n - (k + 1))
        case measure => have := Hlt.out; omega
        case rel =>
          refine ⟨k + 1, e, f', Hlt.out, rfl, rfl, ?_⟩
          have hN := HN.out
          refine ⟨⟨hN.at_.tab, hN.at_.ready, hN.at_.bytes, hN.at_.map.mono (by omega), hN.at_.early, hN.at_.fg, hN.at_.fM, hN.at_.fr, hN.at_.fb, hN.at_.flt, hN.at_.ap⟩, ?_, hN.box, hN.bs, hN.fr⟩
          rw [← Hp.out]
          congr 1
          funext z
          rw [if_neg]
          rintro ⟨rfl, h2, _⟩
          rw [He.out] at h2
          cases h2
      | none =>
        have hlk2 : (Instr.lookup 78 (.map (some gM)) (.int .u32 (sk : Int)) true).run Try.prog wr = .ok (.tuple #[.int .u8 0, .bool false]) wr := by
          rw [hlk]
          show Result.ok (Value.tuple #[(earlyV e sk).getD _, .bool (earlyV e sk).isSome]) wr = _
          unfold earlyV
          rw [he]
          rfl
        have He := hid he
        clear he hlk
        by_cases hdq : d < q
        · have t2 : (d : Int) < (q : Int) := by omega
          have Hdq := hid hdq
          clear hdq
          go_upto_region 8 with fail
          obtain ⟨w9, hrun, hm9, hg9⟩ := HN.out.at_.map.put Try.underlying22 Try.underlying78 (by simp only [maxLen]; omega) sk HskL.out (.int .u8 (x.toNat : Int))
          have Hm9 := hid hm9
          have Hg9 := hid hg9
          clear hm9 hg9
          go_wp2_with fail
          go_roundg (n - (k + 1))
          case measure => have := Hlt.out; omega
          case rel =>
            have hN := HN.out
            refine ⟨k + 1, _, _, Hlt.out, rfl, rfl, hN.at_.mapW Hg9.out Hm9.out (fun z => if z = sk ∧ e z = none ∧ (sk + 4294967296 - c.inn.r) % 4294967296 < c.inn.q then some x else e z) ?_, Hp.out, hN.box.mapWrite hN.at_.map Hg9.out, hN.bs.mapW hN.at_.map Hg9.out, hN.fr.step (Frame.one Hg9.out hN.at_.fM) (fun _ h => .inl h)⟩
            intro z hz
            unfold updU earlyV
            by_cases ez : z = sk
            · rw [if_pos ez]
              show _ = Option.map _ (if z = sk ∧ e z = none ∧ (sk + 4294967296 - c.inn.r) % 4294967296 < c.inn.q then some x else e z)
              rw [if_pos ⟨ez, by rw [ez]; exact He.out, by rw [Hd.out, Hq.out]; exact Hdq.out⟩]
              rfl
            · rw [if_neg ez]
              show _ = Option.map _ (if z = sk ∧ e z = none ∧ (sk + 4294967296 - c.inn.r) % 4294967296 < c.inn.q then some x else e z)
              rw [if_neg (fun h => ez h.1)]
              exact hN.at_.early z hz
        · have t2 : ¬ (d : Int) < (q : Int) := by omega
          have Hdq := hid hdq
          clear hdq
          go_wp2_with fail
          go_roundg (n - (k + 1))
          case measure => have := Hlt.out; omega
          case rel =>
            refine ⟨k + 1, e, f', Hlt.out, rfl, rfl, ?_⟩
            have hN := HN.out
            refine ⟨⟨hN.at_.tab, hN.at_.ready, hN.at_.bytes, hN.at_.map.mono (by omega), hN.at_.early, hN.at_.fg, hN.at_.fM, hN.at_.fr, hN.at_.fb, hN.at_.flt, hN.at_.ap⟩, ?_, hN.box, hN.bs, hN.fr⟩
            rw [← Hp.out]
            congr 1
            funext z
            rw [if_neg]
            rintro ⟨_, _, h2⟩
            rw [Hd.out, Hq.out] at h2
            exact Hdq.out h2
    · obtain rfl : k = n := by omega
      have t1 : ¬ (k : Int) < (k : Int) := by omega
      obtain ⟨en, hen⟩ : ∃ en, (sq + k) % 4294967296 = en := ⟨_, rfl⟩
      have henI : ((sq : Int) + (k : Int)) % 4294967296 = (en : Int) := by omega
      obtain ⟨d, hd⟩ : ∃ d, mSub en c.inn.r = d := ⟨_, rfl⟩
      have hrL := Hi.out.r
      have hdI : ((en : Int) - (c.inn.r : Int)) % 4294967296 = (d : Int) := by rw [← hd]; unfold mSub; omega
      have hput : e = earlyPut c.inn.early c.inn.r c.inn.q sq data 0 := by
        have := hN.put
        rw [List.drop_of_length_le (by rw [Hdl.out]; exact Nat.le_refl _)] at this
        exact this
      have c4 : wr.cell? ⟨g, 4, none⟩ = some (.bool c.inn.told) := hN.at_.tab.cell 4
      have c3 : wr.cell? ⟨g, 3, none⟩ = some (.int .u32 (c.inn.fin : Int)) := hN.at_.tab.cell 3
      have z4 := hN.at_.tab.frozen 4
      have z3 := hN.at_.tab.frozen 3
      have HNo := hid (show ¬ (tBit fl 1 = true ∧ c.inn.told = false ∧ d ≤ q) → tNote c.inn ⟨s0, d0, sq, ak, fl, wi, ms, data⟩ = { c.inn with early := e } by
        intro hn
        unfold tNote
        simp only
        rw [Hdl.out, hen, hd, Hq.out, if_neg hn, ← Hq.out, ← hput])
      have HYes := hid (show (tBit fl 1 = true ∧ c.inn.told = false ∧ d ≤ q) → tNote c.inn ⟨s0, d0, sq, ak, fl, wi, ms, data⟩ = { c.inn with early := e, told := true, fin := en } by
        intro hn
        unfold tNote
        simp only
        rw [Hdl.out, hen, hd, Hq.out, if_pos hn, ← Hq.out, ← hput])
      clear hput hN hen hd hrL c2
      cases hb : (bits .and .i64 fl 1 != 0) with
      | false =>
        have Hb := hid hb
        go_wp2_with fail
        go_end0
        refine ⟨⟨_, rfl⟩, ?_, HN.out.fr⟩
        rw [HNo.out (fun h => by have h1 := h.1; unfold tBit at h1; rw [Hb.out] at h1; cases h1)]
        have hN := HN.out
        exact ⟨_, _, _, _, hN.at_.tab, hN.at_.ready, hN.at_.bytes, by simp only [Hdl.out]; exact hN.at_.map, hN.at_.early, hN.at_.fg, hN.at_.fM, hN.at_.fr, hN.at_.fb, hN.at_.flt, hN.at_.ap⟩
      | true =>
        have Hb := hid hb
        cases ht : c.inn.told with
        | true =>
          rw [ht] at c4
          have Ht := hid ht
          clear ht
          go_wp2_with fail
          go_end0
          refine ⟨⟨_, rfl⟩, ?_, HN.out.fr⟩
          rw [HNo.out (fun h => by have h1 := h.2.1; rw [Ht.out] at h1; cases h1)]
          have hN := HN.out
          exact ⟨_, _, _, _, hN.at_.tab, hN.at_.ready, hN.at_.bytes, by simp only [Hdl.out]; exact hN.at_.map, hN.at_.early, hN.at_.fg, hN.at_.fM, hN.at_.fr, hN.at_.fb, hN.at_.flt, hN.at_.ap⟩
        | false =>
          rw [ht] at c4
          have Ht := hid ht
          clear ht
          by_cases hdq : d ≤ q
          · have t2 : (d : Int) ≤ (q : Int) := by omega
            have Hdq := hid hdq
            clear hdq
            go_wp2_with fail
            go_end0
            have hN := HN.out
            have hst := hN.at_.stored (c' := { c with inn := { c.inn with early := e, told := true, fin := en } }) (grown_trans (grown_set wr g 4 (.bool true)) (grown_set (wr.setCell ⟨g, 4, none⟩ (.bool true)) g 3 (.int .u32 (en : Int)))) ((hN.at_.tab.set_ 4 (.bool true)).set_ 3 (.int .u32 (en : Int))) rfl rfl rfl
            refine ⟨⟨_, rfl⟩, ?_, hN.fr.step (Frame.one (grown_trans (grown_set wr g 4 (.bool true)) (grown_set (wr.setCell ⟨g, 4, none⟩ (.bool true)) g 3 (.int .u32 (en : Int)))) hN.at_.fg) (fun _ h => .inl h)⟩
            rw [HYes.out ⟨by unfold tBit; exact Hb.out, Ht.out, Hdq.out⟩]
            exact ⟨_, _, _, _, by simp only [Hdl.out]; exact hst⟩
          · have t2 : ¬ (d : Int) ≤ (q : Int) := by omega
            have Hdq := hid hdq
            clear hdq
            go_wp2_with fail
            go_end0
            refine ⟨⟨_, rfl⟩, ?_, HN.out.fr⟩
            rw [HNo.out (fun h => Hdq.out h.2.2)]
            have hN := HN.out
            exact ⟨_, _, _, _, hN.at_.tab, hN.at_.ready, hN.at_.bytes, by simp only [Hdl.out]; exact hN.at_.map, hN.at_.early, hN.at_.fg, hN.at_.fM, hN.at_.fr, hN.at_.fb, hN.at_.flt, hN.at_.ap⟩
end Go.Proofs.Ytahlcjkcdgahkaa
