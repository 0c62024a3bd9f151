/- Contract of tcp.Write. -/
import Derived.Test.YtahlcjkcdgahkaaSegC
import Derived.Test.YtahlcjkcdgahkaaOwn
import Derived.Test.YtahlcjkcdgahkaaConcat
import Derived.Deep.LoopGhost
namespace Go.Proofs.Ytahlcjkcdgahkaa
open Go Go.RowKit
attribute [local go_sem ↓] Go.wp_at_zero Go.wp_at_succ
set_option maxRecDepth 100000

/-- the bytes of a segment whose sum is set -/
theorem segBytes_set (s : TSeg) (S : Nat) : (segBytes s 0).take 16 ++ (beBytes 2 S ++ (segBytes s 0).drop (16 + (beBytes 2 S).length)) = segBytes s S := by
  unfold segBytes
  have h16 : (beBytes 2 s.src.toNat ++ beBytes 2 s.dst.toNat ++ beBytes 4 s.seq ++ beBytes 4 s.ack ++ [UInt8.ofNat (if s.mss = 0 then 80 else 96), UInt8.ofNat s.flags.toNat] ++ beBytes 2 s.window.toNat).length = 16 := by simp [beBytes_len]
  generalize beBytes 2 s.src.toNat ++ beBytes 2 s.dst.toNat ++ beBytes 4 s.seq ++ beBytes 4 s.ack ++ [UInt8.ofNat (if s.mss = 0 then 80 else 96), UInt8.ofNat s.flags.toNat] ++ beBytes 2 s.window.toNat = H at *
  have e1 : (H ++ beBytes 2 0 ++ [0, 0] ++ (if s.mss = 0 then [] else [2, 4] ++ beBytes 2 s.mss.toNat) ++ s.data).take 16 = H := by
    simp only [List.append_assoc]; exact List.take_left' h16
  have e2 : (H ++ beBytes 2 0 ++ [0, 0] ++ (if s.mss = 0 then [] else [2, 4] ++ beBytes 2 s.mss.toNat) ++ s.data).drop (16 + (beBytes 2 S).length) = [0, 0] ++ (if s.mss = 0 then [] else [2, 4] ++ beBytes 2 s.mss.toNat) ++ s.data := by
    rw [show H ++ beBytes 2 0 ++ [0, 0] ++ (if s.mss = 0 then [] else [2, 4] ++ beBytes 2 s.mss.toNat) ++ s.data = (H ++ beBytes 2 0) ++ ([0, 0] ++ (if s.mss = 0 then [] else [2, 4] ++ beBytes 2 s.mss.toNat) ++ s.data) by simp only [List.append_assoc]]
    exact List.drop_left' (by simp [h16, beBytes_len])
  rw [e1, e2]
  simp only [List.append_assoc]
theorem segBytes_len (s : TSeg) (S : Nat) : (segBytes s S).length = (if s.mss = 0 then 20 else 24) + s.data.length := by
  unfold segBytes
  split <;> simp [beBytes_len] <;> omega
def segBad (f t wi ms : Int) : Prop := f < 0 ∨ f > 65535 ∨ t < 0 ∨ t > 65535 ∨ wi < 0 ∨ wi > 65535 ∨ ms < 0 ∨ ms > 65535
/-- the four numbers -/
theorem four_cell (w : World) (e : TypeId) (f t wi ms : Int) (i : Nat) (hi : i < 4) (wr : World) (hw : wr = w.alloc (.cells #[.int .i64 f, .int .i64 t, .int .i64 wi, .int .i64 ms] e)) :
    ∃ x, wr.cell? ⟨w.heap.size, i, none⟩ = some (.int .i64 x) ∧ ([f, t, wi, ms][i]? = some x) := by
  subst hw
  have hb := Blk.new w e #[.int .i64 f, .int .i64 t, .int .i64 wi, .int .i64 ms]
  match i, hi with
  | 0, _ => exact ⟨f, hb.cell 0, rfl⟩
  | 1, _ => exact ⟨t, hb.cell 1, rfl⟩
  | 2, _ => exact ⟨wi, hb.cell 2, rfl⟩
  | 3, _ => exact ⟨ms, hb.cell 3, rfl⟩
theorem not_bad {f t wi ms : Int} (h : ∀ (j : Nat) x, [f, t, wi, ms][j]? = some x → 0 ≤ x ∧ x ≤ 65535) : ¬ segBad f t wi ms := by
  have h0 := h 0 f rfl
  have h1 := h 1 t rfl
  have h2 := h 2 wi rfl
  have h3 := h 3 ms rfl
  unfold segBad
  omega
theorem is_bad {f t wi ms x : Int} {j : Nat} (h : [f, t, wi, ms][j]? = some x) (hx : x < 0 ∨ x > 65535) : segBad f t wi ms := by
  unfold segBad
  match j with
  | 0 => simp at h; omega
  | 1 => simp at h; omega
  | 2 => simp at h; omega
  | 3 => simp at h; omega
  | j + 4 => simp at h
theorem blk8 {w : World} {g : Nat} {t : TypeId} {x0 x1 x2 x3 x4 x5 x6 x7 : Value} (h : Blk w g t [x0, x1, x2, x3, x4, x5, x6, x7]) :
    w.cell? ⟨g, 0, none⟩ = some x0 ∧ w.cell? ⟨g, 1, none⟩ = some x1 ∧ w.cell? ⟨g, 2, none⟩ = some x2 ∧ w.cell? ⟨g, 3, none⟩ = some x3 ∧ w.cell? ⟨g, 4, none⟩ = some x4 ∧ w.cell? ⟨g, 5, none⟩ = some x5 ∧ w.cell? ⟨g, 6, none⟩ = some x6 ∧ w.cell? ⟨g, 7, none⟩ = some x7 :=
  ⟨h.cell 0, h.cell 1, h.cell 2, h.cell 3, h.cell 4, h.cell 5, h.cell 6, h.cell 7⟩
def WritePost (src dst : Nat) (s : TSeg) (w : World) (e : Ending) (w' : World) : Prop :=
  ∃ v', e = .returned (.tuple #[v', .int .i64 (segWrite src dst s).2]) ∧ OwnBs w' w.heap.size 5 v' (segWrite src dst s).1 ∧ Below w.heap.size w w'
theorem WritePost.err {src dst : Nat} {s : TSeg} {w w' : World} {c : Int} (h : segWrite src dst s = ([], c)) (hb : Below w.heap.size w w') : WritePost src dst s w (.returned (.tuple #[.slice none 0 0, .int .i64 c])) w' := by
  unfold WritePost
  rw [h]
  exact ⟨_, rfl, OwnBs.nil _ _ _, hb⟩
theorem WritePost.fin {src dst : Nat} {s : TSeg} {w w' : World} {v' : Value} {bs : List UInt8} (h : segWrite src dst s = (bs, 0)) (ho : OwnBs w' w.heap.size 5 v' bs) (hb : Below w.heap.size w w') : WritePost src dst s w (.returned (.tuple #[v', .int .i64 0])) w' := by
  unfold WritePost
  rw [h]
  exact ⟨_, rfl, ho, hb⟩
set_option maxHeartbeats 4000000 in
theorem twrite_any (f t : Int) (seq ack : Nat) (fl wi ms : Int) (data : List UInt8) (A : Option Addr) (n cap : Nat) (src dst : Nat) (w : World) (h : Bs w (.slice A n cap) data) (hl : data.length ≤ 1000000) (hs : src < 4294967296) (hd : dst < 4294967296) (hsq : seq < 4294967296) (hak : ack < 4294967296) :
    Calls Try.prog 30 #[.int .u32 src, .int .u32 dst, .agg #[.int .i64 f, .int .i64 t, .int .u32 (seq : Int), .int .u32 (ack : Int), .int .i64 fl, .int .i64 wi, .int .i64 ms, .slice A n cap]] w (WritePost src dst ⟨f, t, seq, ack, fl, wi, ms, data⟩ w) := by
  have Hb := hid h
  have hn : data.length = n := by obtain ⟨_, _, _, hv, _⟩ := h; injection hv with _ h2; exact h2.symm
  have Hn := hid hn
  rw [hn] at hl
  have Hnum := hid (And.intro hs (And.intro hd (And.intro hsq hak)))
  clear h hn hs hd hsq hak
  go_enter Try.func30, Try.ntmps30
  go_upto_region 2 with fail
  go_loopg [9, 26] 4 (fun gk s9 s26 wr => ∃ i : Nat, i ≤ 4 ∧ gk = 4 - i ∧ s26 = .int .i64 (i : Int) ∧ wr = ((w.alloc (.cells #[.int .i64 f, .int .i64 t, .int .u32 (seq : Int), .int .u32 (ack : Int), .int .i64 fl, .int .i64 wi, .int .i64 ms, .slice A n cap] 30)).alloc (.cells #[.int .i64 f, .int .i64 t, .int .i64 wi, .int .i64 ms] 3)) ∧ ∀ j x, j < i → [f, t, wi, ms][j]? = some x → 0 ≤ x ∧ x ≤ 65535)
  case atStart => exact ⟨0, by omega, rfl, rfl, rfl, fun j x hj => absurd hj (by omega)⟩
  case round =>
    obtain ⟨i, hi, rfl, rfl, hwr, hgood⟩ := hrel
    have Hgood := hid hgood
    clear hgood
    by_cases hlt : i < 4
    · have t1 : (i : Int) < 4 := by omega
      obtain ⟨x, hc, hx⟩ := four_cell (w.alloc (.cells #[.int .i64 f, .int .i64 t, .int .u32 (seq : Int), .int .u32 (ack : Int), .int .i64 fl, .int .i64 wi, .int .i64 ms, .slice A n cap] 30)) 3 f t wi ms i hlt wr hwr
      rw [World.size_alloc] at hc
      have Hx := hid hx
      clear hx
      have Hwr := hid hwr
      have Hbel := hid (show Below w.heap.size w wr by rw [hwr]; exact below_alloc' (below_alloc w _) _)
      clear hwr
      by_cases hx0 : x < 0
      · go_wp2_with fail
        go_ret2
        exact WritePost.err (by have h0 := is_bad Hx.out (.inl hx0); unfold segBad at h0; unfold segWrite; rw [if_pos h0]) Hbel.out
      by_cases hx1 : x > 65535
      · go_wp2_with fail
        go_ret2
        exact WritePost.err (by have h0 := is_bad Hx.out (.inr hx1); unfold segBad at h0; unfold segWrite; rw [if_pos h0]) Hbel.out
      go_wp2_with fail
      go_roundg (4 - (i + 1))
      case measure => omega
      case rel => exact ⟨i + 1, by omega, rfl, rfl, Hwr.out, fun j y hj hy => if e : j = i then (by subst e; have h1 := Hx.out; rw [hy] at h1; injection h1 with h1; subst h1; omega) else Hgood.out j y (by omega) hy⟩
    · obtain rfl : i = 4 := by omega
      have t1 : ¬ ((4 : Nat) : Int) < 4 := by omega
      have HG := hid (not_bad (fun (j : Nat) x hj => Hgood.out j x (by
        rcases Nat.lt_or_ge j 4 with h | h
        · exact h
        · rw [List.getElem?_eq_none (by simpa using h)] at hj; cases hj) hj))
      clear Hgood hi
      have HBk := hid (show Blk wr w.heap.size 30 [.int .i64 f, .int .i64 t, .int .u32 (seq : Int), .int .u32 (ack : Int), .int .i64 fl, .int .i64 wi, .int .i64 ms, .slice A n cap] by rw [hwr]; exact (Blk.new w 30 #[.int .i64 f, .int .i64 t, .int .u32 (seq : Int), .int .u32 (ack : Int), .int .i64 fl, .int .i64 wi, .int .i64 ms, .slice A n cap]).alloc _)
      have Hbel := hid (show Below w.heap.size w wr by rw [hwr]; exact below_alloc' (below_alloc w _) _)
      have Hsz := hid (show wr.heap.size = w.heap.size + 2 by rw [hwr]; simp)
      clear hwr
      have c4 := HBk.out.cell 4
      have c6 := HBk.out.cell 6
      have c7 := HBk.out.cell 7
      by_cases hf0 : fl < 0
      · go_wp2_with fail
        go_ret2
        exact WritePost.err (by have h0 := HG.out; unfold segBad at h0; unfold segWrite; rw [if_neg h0, if_pos (.inl hf0)]) Hbel.out
      by_cases hf1 : fl > 31
      · go_wp2_with fail
        go_ret2
        exact WritePost.err (by have h0 := HG.out; unfold segBad at h0; unfold segWrite; rw [if_neg h0, if_pos (.inr hf1)]) Hbel.out
      by_cases hn0 : n > 65000
      · have t2 : (n : Int) > 65000 := by omega
        go_wp2_with fail
        go_ret2
        exact WritePost.err (by have h0 := HG.out; unfold segBad at h0; unfold segWrite; rw [if_neg h0, if_neg (by simp only; omega), if_pos (by simp only; have := Hn.out; omega)]) Hbel.out
      have t2 : ¬ (n : Int) > 65000 := by omega
      have Hwr := hid (show segWrite src dst ⟨f, t, seq, ack, fl, wi, ms, data⟩ = (segBytes ⟨f, t, seq, ack, fl, wi, ms, data⟩ (segSum src dst (segBytes ⟨f, t, seq, ack, fl, wi, ms, data⟩ 0)), 0) by
        have h0 := HG.out; unfold segBad at h0; unfold segWrite; rw [if_neg h0, if_neg (by simp only; omega), if_neg (by simp only; have := Hn.out; omega)])
      have hg := HG.out
      unfold segBad at hg
      obtain ⟨f', rfl⟩ : ∃ k : Nat, f = k := ⟨f.toNat, by omega⟩
      obtain ⟨t', rfl⟩ : ∃ k : Nat, t = k := ⟨t.toNat, by omega⟩
      obtain ⟨wi', rfl⟩ : ∃ k : Nat, wi = k := ⟨wi.toNat, by omega⟩
      obtain ⟨ms', rfl⟩ : ∃ k : Nat, ms = k := ⟨ms.toNat, by omega⟩
      obtain ⟨fl', rfl⟩ : ∃ k : Nat, fl = k := ⟨fl.toNat, by omega⟩
      have hf : f' ≤ 65535 := by omega
      have ht : t' ≤ 65535 := by omega
      have hw : wi' ≤ 65535 := by omega
      have hm : ms' ≤ 65535 := by omega
      have hfl : fl' ≤ 31 := by omega
      clear HG hg c4 c6 c7
      have hwf : IntKind.u64.wrap (f' : Int) = (f' : Int) := IntWalk.u64_in _ (by omega)
      have hwt : IntKind.u64.wrap (t' : Int) = (t' : Int) := IntWalk.u64_in _ (by omega)
      have hww : IntKind.u64.wrap (wi' : Int) = (wi' : Int) := IntWalk.u64_in _ (by omega)
      have hwm : IntKind.u64.wrap (ms' : Int) = (ms' : Int) := IntWalk.u64_in _ (by omega)
      have hwq : IntKind.u64.wrap (seq : Int) = (seq : Int) := IntWalk.u64_in _ (by have := Hnum.out; omega)
      have hwa : IntKind.u64.wrap (ack : Int) = (ack : Int) := IntWalk.u64_in _ (by have := Hnum.out; omega)
      have hwfl : IntKind.u8.wrap (fl' : Int) = (fl' : Int) := IntWalk.u8_in _ (by omega)
      obtain ⟨c0, c1, c2, c3, c4, c5, c6, c7⟩ := blk8 HBk.out
      have hS : ∀ b, segSum src dst b ≤ 65535 := fun b => by unfold segSum inet; omega
      obtain ⟨S, hSe⟩ : ∃ S, segSum src dst (segBytes ⟨(f' : Int), (t' : Int), seq, ack, (fl' : Int), (wi' : Int), (ms' : Int), data⟩ 0) = S := ⟨_, rfl⟩
      have hS16 : S ≤ 65535 := by rw [← hSe]; exact hS _
      have hwS : IntKind.u64.wrap (S : Int) = (S : Int) := IntWalk.u64_in _ (by omega)
      have Hp0 := hid (put_fits beBytes [2, 4] 2 2 [ms'] rfl (by decide) (by simp; omega))
      have Hp1 := hid (put_fits beBytes [] 2 2 [f', t'] rfl (by decide) (by simp; omega))
      have HpS := hid (put_fits beBytes [] 2 2 [S] rfl (by decide) (by simp; omega))
      rw [show [] ++ [f', t'].flatMap (beBytes 2) = beBytes 2 f' ++ beBytes 2 t' by simp] at Hp1
      rw [show [] ++ [S].flatMap (beBytes 2) = beBytes 2 S by simp] at HpS
      obtain ⟨B1, hB1⟩ : ∃ B, beBytes 2 f' ++ beBytes 2 t' = B := ⟨_, rfl⟩
      have hl1 : B1.length = 4 := by rw [← hB1]; simp [beBytes_len]
      have Hp2 := hid (put_fits beBytes B1 4 4 [seq, ack] rfl (by decide) (by have := Hnum.out; simp; omega))
      rw [show B1 ++ [seq, ack].flatMap (beBytes 4) = B1 ++ (beBytes 4 seq ++ beBytes 4 ack) by simp] at Hp2
      rw [hB1] at Hp1
      obtain ⟨B2, hB2⟩ : ∃ B, B1 ++ (beBytes 4 seq ++ beBytes 4 ack) = B := ⟨_, rfl⟩
      rw [hB2] at Hp2
      have hl2 : B2.length = 12 := by rw [← hB2]; simp [beBytes_len, hl1]
      obtain ⟨hb, hhb⟩ : ∃ k : Nat, (if ms' = 0 then 80 else 96) = k := ⟨_, rfl⟩
      obtain ⟨B3, hB3⟩ : ∃ B, B2 ++ [UInt8.ofNat hb, UInt8.ofNat fl'] = B := ⟨_, rfl⟩
      have hl3 : B3.length = 14 := by rw [← hB3]; simp [hl2]
      have Hp3 := hid (put_fits beBytes B3 2 2 [wi', 0, 0] rfl (by decide) (by simp; omega))
      rw [show B3 ++ [wi', 0, 0].flatMap (beBytes 2) = B3 ++ (beBytes 2 wi' ++ beBytes 2 0 ++ beBytes 2 0) by simp] at Hp3
      obtain ⟨B4, hB4⟩ : ∃ B, B3 ++ (beBytes 2 wi' ++ beBytes 2 0 ++ beBytes 2 0) = B := ⟨_, rfl⟩
      rw [hB4] at Hp3
      have hl4 : B4.length = 20 := by rw [← hB4]; simp [beBytes_len, hl3]
      obtain ⟨more, hmore⟩ : ∃ l : List UInt8, (if ms' = 0 then [] else [2, 4] ++ beBytes 2 ms') = l := ⟨_, rfl⟩
      have hlm : more.length ≤ 4 := by rw [← hmore]; split <;> simp [beBytes_len]
      obtain ⟨B5, hB5⟩ : ∃ B, [B4, more, data].flatten = B := ⟨_, rfl⟩
      have hbytes : segBytes ⟨(f' : Int), (t' : Int), seq, ack, (fl' : Int), (wi' : Int), (ms' : Int), data⟩ 0 = B5 := by
        rw [← hB5, ← hB4, ← hB3, ← hB2, ← hB1, ← hmore, ← hhb]
        unfold segBytes
        have e0 : beBytes 2 0 = [0, 0] := by decide
        have e1 : ((ms' : Int) = 0) = (ms' = 0) := by simp
        simp only [Int.toNat_natCast, e0, e1, List.flatten_cons, List.flatten_nil, List.append_nil, List.append_assoc]
      have hl5 : B5.length = 20 + more.length + n := by rw [← hB5]; simp [hl4, Hn.out]; omega
      have Hset := hid (segBytes_set ⟨(f' : Int), (t' : Int), seq, ack, (fl' : Int), (wi' : Int), (ms' : Int), data⟩ S)
      rw [hbytes] at hSe
      rw [hbytes] at Hset
      obtain ⟨ii, hii, hz, hss, hby⟩ := info_parts u8info
      clear hz hby
      have Hres := hid (show segWrite src dst ⟨(f' : Int), (t' : Int), seq, ack, (fl' : Int), (wi' : Int), (ms' : Int), data⟩ = (segBytes ⟨(f' : Int), (t' : Int), seq, ack, (fl' : Int), (wi' : Int), (ms' : Int), data⟩ S, 0) by rw [Hwr.out, hbytes, hSe])
      have HSe := hid hSe
      have HL := hid (And.intro hl1 (And.intro hl2 (And.intro hl3 (And.intro hl4 (And.intro hl5 hlm)))))
      have H3 := hid hB3
      have H5 := hid hB5
      have hm0' : IntKind.u8.wrap (hb : Int) = (hb : Int) := IntWalk.u8_in _ (by rw [← hhb]; split <;> simp)
      have T1 := hid (show Value.int .u8 (hb : Int) = u8v (UInt8.ofNat hb) by unfold u8v; rw [UInt8.toNat_ofNat']; exact val_int (by rw [← hhb]; split <;> simp))
      have T2 := hid (show Value.int .u8 (fl' : Int) = u8v (UInt8.ofNat fl') by unfold u8v; rw [UInt8.toNat_ofNat']; exact val_int (by omega))
      clear Hwr hS hSe hbytes hB1 hB2 hB3 hB4 hB5 hl1 hl2 hl3 hl4 hl5 hlm
      by_cases hm0 : ms' = 0
      · subst hm0
        obtain rfl : hb = 80 := by rw [← hhb]; rfl
        have HM := hid (show Bs wr (.slice none 0 0) more by rw [← hmore]; exact Bs.nil wr)
        clear hhb hmore
        go_wp2_with fail
        refine (putBe_any _ [] 2 _ [f', t'] _ (Bs.nil _) (u64_lit #[.int .u64 (f' : Int), .int .u64 (t' : Int)] [f', t'] 2 _ rfl rfl (by simp) (by simp) (by simp; omega)) (by simp)).mono ?_
        rintro e w1 ⟨v1, rfl, hown, hb1⟩
        rw [Hp1.out] at hown ⊢
        simp only at hown ⊢
        have Hown1 := hid (hown.mono (base' := wr.heap.size) (by simp))
        have Hb1 := hid ((below_alloc wr _).trans (hb1.mono (by simp)))
        clear c0 c1 c2 c3 c4 c5 c6 c7 hown hb1
        obtain ⟨c0, c1, c2, c3, c4, c5, c6, c7⟩ := blk8 (HBk.out.keep Hb1.out)
        go_wp2_with fail
        refine (putBe_any _ B1 4 _ [seq, ack] _ (Hown1.out.bs.alloc _) (u64_lit #[.int .u64 (seq : Int), .int .u64 (ack : Int)] [seq, ack] 2 _ rfl rfl (by simp) (by simp) (by have := Hnum.out; simp; omega)) (by rw [HL.out.1]; simp)).mono ?_
        rintro e w2 ⟨v2, rfl, hown, hb2⟩
        rw [Hp2.out] at hown ⊢
        simp only at hown ⊢
        have Hown2 := hid (hown.mono (base' := wr.heap.size) (by have := Hb1.out.size; simp; omega))
        have Hb2 := hid ((below_alloc' Hb1.out _).trans (hb2.mono (by have := Hb1.out.size; simp; omega)))
        clear c0 c1 c2 c3 c4 c5 c6 c7 hown hb2
        obtain ⟨c0, c1, c2, c3, c4, c5, c6, c7⟩ := blk8 (HBk.out.keep Hb2.out)
        go_wp2_with ((with_reducible show wpList _ _ _ (Oper.mk (some 97) _ _ _ _ _ :: _) _ _); refine wpList_app8 _ rfl _ _ 28 rfl wr.heap.size 5 u8ok _ B2 rfl (Hown2.out.alloc _) _ [UInt8.ofNat 80, UInt8.ofNat fl'] rfl (bs_litm #[.int .u8 80, .int .u8 (fl' : Int)] [UInt8.ofNat 80, UInt8.ofNat fl'] 2 _ (by rw [T2.out]; rfl) rfl (by decide) (by simp)) (by rw [HL.out.2.1]; simp) (by have := Hb2.out.size; simp; omega) ?_; intro v3 w3 hown hb3 hg3 hat3; rw [H3.out] at hown; have Hown3 := hid hown; have Hb3 := hid ((below_alloc' Hb2.out _).trans hb3); clear c0 c1 c2 c3 c4 c5 c6 c7 hown hb3 hg3 hat3; obtain ⟨c0, c1, c2, c3, c4, c5, c6, c7⟩ := blk8 (HBk.out.keep Hb3.out))
        refine (putBe_any _ B3 2 _ [wi', 0, 0] _ (Hown3.out.bs.alloc _) (u64_lit #[.int .u64 (wi' : Int), .int .u64 (0 : Int), .int .u64 (0 : Int)] [wi', 0, 0] 3 _ rfl rfl (by simp) (by simp) (by simp; omega)) (by rw [HL.out.2.2.1]; simp)).mono ?_
        rintro e w4 ⟨v4, rfl, hown, hb4⟩
        rw [Hp3.out] at hown ⊢
        simp only at hown ⊢
        obtain ⟨A4, cap4, rfl⟩ := slice_len hown.bs HL.out.2.2.2.1
        have Hown4 := hid (hown.mono (base' := wr.heap.size) (by have := Hb3.out.size; simp; omega))
        have Hb4 := hid ((below_alloc' Hb3.out _).trans (hb4.mono (by have := Hb3.out.size; simp; omega)))
        clear c0 c1 c2 c3 c4 c5 c6 c7 hown hb4
        obtain ⟨c0, c1, c2, c3, c4, c5, c6, c7⟩ := blk8 (HBk.out.keep Hb4.out)
        go_wp2_with fail
        refine (concat_any _ [B4, more, data] _ (rows_three Hown4.out.bs (HM.out.below Hb4.out) ((Hb.out.below Hbel.out).below Hb4.out) rfl) (by simp) (by rw [H5.out, HL.out.2.2.2.2.1]; have := HL.out.2.2.2.2.2; omega)).mono ?_
        rintro e w5 ⟨v5, rfl, hown, hb5⟩
        rw [H5.out] at hown
        obtain ⟨g5, cap5, rfl, q1, q2, q3⟩ := own_open hown (by rw [HL.out.2.2.2.2.1]; omega)
        have q4 : wr.heap.size ≤ g5 := by have := Hb4.out.size; simp at q2; omega
        have c16 := run_tail (P := Try.prog) (T := 28) Try.underlying28 hii hss g5 B5.length cap5 .i64 16 16 rfl (by rw [HL.out.2.2.2.2.1]; omega) q1 (by have := HL.out.2.2.2.2.1; omega)
        have Hown5 := hid (hown.mono (base' := wr.heap.size) (by have := Hb4.out.size; simp; omega))
        have Hb5 := hid ((below_alloc' Hb4.out _).trans (hb5.mono (by have := Hb4.out.size; simp; omega)))
        clear c0 c1 c2 c3 c4 c5 c6 c7 hown hb5
        go_wp2_with fail
        refine (tsum_any _ B5 src dst S _ Hown5.out.bs (by rw [HL.out.2.2.2.2.1]; have := HL.out.2.2.2.2.2; omega) Hnum.out.1 Hnum.out.2.1 HSe.out).mono ?_
        rintro e w6 ⟨rfl, hb6⟩
        have Hown6 := hid (Hown5.out.below hb6)
        have Hb6 := hid (Hb5.out.trans (hb6.mono Hb5.out.size))
        clear hb6
        go_wp2_with fail
        refine (putBe_any _ [] 2 _ [S] _ (Bs.nil _) (u64_lit #[.int .u64 (S : Int)] [S] 1 _ rfl rfl (by simp) (by simp) (by simp; omega)) (by simp)).mono ?_
        rintro e w7 ⟨v7, rfl, hown, hb7⟩
        rw [HpS.out] at hown ⊢
        simp only at hown ⊢
        have Hs7 := hid hown.bs
        have Hown7 := hid ((Hown6.out.alloc _).below hb7)
        have Hb7 := hid ((below_alloc' Hb6.out _).trans (hb7.mono (by have := Hb6.out.size; simp; omega)))
        clear hown hb7
        go_wp2_with ((with_reducible show wpList _ _ _ (Oper.mk (some 126) _ _ _ _ _ :: _) _ _); refine wpList_copy8 rfl _ _ 28 rfl 5 u8ok wr.heap.size g5 cap5 B5 Hown7.out 16 _ _ rfl (by rw [HL.out.2.2.2.2.1]; omega) _ (beBytes 2 S) rfl Hs7.out (by rw [HL.out.2.2.2.2.1, beBytes_len]; omega) ?_; intro w8 hown8 hg8 hsz8; rw [Hset.out] at hown8; have Hown8 := hid hown8; have Hb8 := hid (below_own Hb7.out hg8 q4 Hb7.out.size); clear hown8 hg8 hsz8)
        go_ret2
        exact WritePost.fin Hres.out (Hown8.out.mono Hbel.out.size) (Hbel.out.trans (Hb8.out.mono Hbel.out.size))
      · have hmb : ((ms' : Int) != 0) = true := by simp; omega
        have c6a := fun (o : Obj) => cell_below (below_alloc wr o) c6
        obtain rfl : hb = 96 := by rw [← hhb, if_neg hm0]
        rw [if_neg hm0] at hmore
        have hml : more.length = 4 := by rw [← hmore]; simp [beBytes_len]
        have Hml := hid hml
        clear hhb
        go_wp2_with fail
        refine (putBe_any _ [2, 4] 2 _ [ms'] _ (Bs.alloc (bs_litm #[.int .u8 2, .int .u8 4] [2, 4] 2 _ rfl rfl (by decide) rfl) _) (u64_lit #[.int .u64 (ms' : Int)] [ms'] 1 _ rfl rfl (by simp) (by simp) (by simp; omega)) (by simp)).mono ?_
        rintro e wn ⟨v0, rfl, hown, hb0⟩
        rw [Hp0.out, show [2, 4] ++ [ms'].flatMap (beBytes 2) = more by rw [← hmore]; simp] at hown
        rw [Hp0.out]
        simp only at hown ⊢
        obtain ⟨A0, cap0, rfl⟩ := slice_len hown.bs hml
        have HB0 := (below_alloc' (below_alloc wr (.cells #[.int .u8 2, .int .u8 4] 5)) (.cells #[.int .u64 (ms' : Int)] 93)).trans (hb0.mono (by simp only [World.size_alloc]; omega))
        have HM := hid (show Bs wn _ more from hown.bs)
        have HBk := hid (HBk.out.keep HB0)
        have Hbel := hid (Hbel.out.trans (HB0.mono Hbel.out.size))
        clear c0 c1 c2 c3 c4 c5 c6 c7 c6a HB0 hown hb0 hml hmore Hsz
        obtain ⟨c0, c1, c2, c3, c4, c5, c6, c7⟩ := blk8 HBk.out
        go_wp2_with fail
        refine (putBe_any _ [] 2 _ [f', t'] _ (Bs.nil _) (u64_lit #[.int .u64 (f' : Int), .int .u64 (t' : Int)] [f', t'] 2 _ rfl rfl (by simp) (by simp) (by simp; omega)) (by simp)).mono ?_
        rintro e w1 ⟨v1, rfl, hown, hb1⟩
        rw [Hp1.out] at hown ⊢
        simp only at hown ⊢
        have Hown1 := hid (hown.mono (base' := wn.heap.size) (by simp))
        have Hb1 := hid ((below_alloc wn _).trans (hb1.mono (by simp)))
        clear c0 c1 c2 c3 c4 c5 c6 c7 hown hb1
        obtain ⟨c0, c1, c2, c3, c4, c5, c6, c7⟩ := blk8 (HBk.out.keep Hb1.out)
        go_wp2_with fail
        refine (putBe_any _ B1 4 _ [seq, ack] _ (Hown1.out.bs.alloc _) (u64_lit #[.int .u64 (seq : Int), .int .u64 (ack : Int)] [seq, ack] 2 _ rfl rfl (by simp) (by simp) (by have := Hnum.out; simp; omega)) (by rw [HL.out.1]; simp)).mono ?_
        rintro e w2 ⟨v2, rfl, hown, hb2⟩
        rw [Hp2.out] at hown ⊢
        simp only at hown ⊢
        have Hown2 := hid (hown.mono (base' := wn.heap.size) (by have := Hb1.out.size; simp; omega))
        have Hb2 := hid ((below_alloc' Hb1.out _).trans (hb2.mono (by have := Hb1.out.size; simp; omega)))
        clear c0 c1 c2 c3 c4 c5 c6 c7 hown hb2
        obtain ⟨c0, c1, c2, c3, c4, c5, c6, c7⟩ := blk8 (HBk.out.keep Hb2.out)
        go_wp2_with ((with_reducible show wpList _ _ _ (Oper.mk (some 97) _ _ _ _ _ :: _) _ _); refine wpList_app8 _ rfl _ _ 28 rfl wn.heap.size 5 u8ok _ B2 rfl (Hown2.out.alloc _) _ [UInt8.ofNat 96, UInt8.ofNat fl'] rfl (bs_litm #[.int .u8 96, .int .u8 (fl' : Int)] [UInt8.ofNat 96, UInt8.ofNat fl'] 2 _ (by rw [T2.out]; rfl) rfl (by decide) (by simp)) (by rw [HL.out.2.1]; simp) (by have := Hb2.out.size; simp; omega) ?_; intro v3 w3 hown hb3 hg3 hat3; rw [H3.out] at hown; have Hown3 := hid hown; have Hb3 := hid ((below_alloc' Hb2.out _).trans hb3); clear c0 c1 c2 c3 c4 c5 c6 c7 hown hb3 hg3 hat3; obtain ⟨c0, c1, c2, c3, c4, c5, c6, c7⟩ := blk8 (HBk.out.keep Hb3.out))
        refine (putBe_any _ B3 2 _ [wi', 0, 0] _ (Hown3.out.bs.alloc _) (u64_lit #[.int .u64 (wi' : Int), .int .u64 (0 : Int), .int .u64 (0 : Int)] [wi', 0, 0] 3 _ rfl rfl (by simp) (by simp) (by simp; omega)) (by rw [HL.out.2.2.1]; simp)).mono ?_
        rintro e w4 ⟨v4, rfl, hown, hb4⟩
        rw [Hp3.out] at hown ⊢
        simp only at hown ⊢
        obtain ⟨A4, cap4, rfl⟩ := slice_len hown.bs HL.out.2.2.2.1
        have Hown4 := hid (hown.mono (base' := wn.heap.size) (by have := Hb3.out.size; simp; omega))
        have Hb4 := hid ((below_alloc' Hb3.out _).trans (hb4.mono (by have := Hb3.out.size; simp; omega)))
        clear c0 c1 c2 c3 c4 c5 c6 c7 hown hb4
        obtain ⟨c0, c1, c2, c3, c4, c5, c6, c7⟩ := blk8 (HBk.out.keep Hb4.out)
        go_wp2_with fail
        refine (concat_any _ [B4, more, data] _ (rows_three Hown4.out.bs (HM.out.below Hb4.out) ((Hb.out.below Hbel.out).below Hb4.out) rfl) (by simp) (by rw [H5.out, HL.out.2.2.2.2.1]; have := HL.out.2.2.2.2.2; omega)).mono ?_
        rintro e w5 ⟨v5, rfl, hown, hb5⟩
        rw [H5.out] at hown
        obtain ⟨g5, cap5, rfl, q1, q2, q3⟩ := own_open hown (by rw [HL.out.2.2.2.2.1]; omega)
        have q4 : wn.heap.size ≤ g5 := by have := Hb4.out.size; simp at q2; omega
        have c16 := run_tail (P := Try.prog) (T := 28) Try.underlying28 hii hss g5 B5.length cap5 .i64 16 16 rfl (by rw [HL.out.2.2.2.2.1]; omega) q1 (by have := HL.out.2.2.2.2.1; omega)
        have Hown5 := hid (hown.mono (base' := wn.heap.size) (by have := Hb4.out.size; simp; omega))
        have Hb5 := hid ((below_alloc' Hb4.out _).trans (hb5.mono (by have := Hb4.out.size; simp; omega)))
        clear c0 c1 c2 c3 c4 c5 c6 c7 hown hb5
        go_wp2_with fail
        refine (tsum_any _ B5 src dst S _ Hown5.out.bs (by rw [HL.out.2.2.2.2.1]; have := HL.out.2.2.2.2.2; omega) Hnum.out.1 Hnum.out.2.1 HSe.out).mono ?_
        rintro e w6 ⟨rfl, hb6⟩
        have Hown6 := hid (Hown5.out.below hb6)
        have Hb6 := hid (Hb5.out.trans (hb6.mono Hb5.out.size))
        clear hb6
        go_wp2_with fail
        refine (putBe_any _ [] 2 _ [S] _ (Bs.nil _) (u64_lit #[.int .u64 (S : Int)] [S] 1 _ rfl rfl (by simp) (by simp) (by simp; omega)) (by simp)).mono ?_
        rintro e w7 ⟨v7, rfl, hown, hb7⟩
        rw [HpS.out] at hown ⊢
        simp only at hown ⊢
        have Hs7 := hid hown.bs
        have Hown7 := hid ((Hown6.out.alloc _).below hb7)
        have Hb7 := hid ((below_alloc' Hb6.out _).trans (hb7.mono (by have := Hb6.out.size; simp; omega)))
        clear hown hb7
        go_wp2_with ((with_reducible show wpList _ _ _ (Oper.mk (some 126) _ _ _ _ _ :: _) _ _); refine wpList_copy8 rfl _ _ 28 rfl 5 u8ok wn.heap.size g5 cap5 B5 Hown7.out 16 _ _ rfl (by rw [HL.out.2.2.2.2.1]; omega) _ (beBytes 2 S) rfl Hs7.out (by rw [HL.out.2.2.2.2.1, beBytes_len]; omega) ?_; intro w8 hown8 hg8 hsz8; rw [Hset.out] at hown8; have Hown8 := hid hown8; have Hb8 := hid (below_own Hb7.out hg8 q4 Hb7.out.size); clear hown8 hg8 hsz8)
        go_ret2
        exact WritePost.fin Hres.out (Hown8.out.mono Hbel.out.size) (Hbel.out.trans (Hb8.out.mono Hbel.out.size))
end Go.Proofs.Ytahlcjkcdgahkaa
